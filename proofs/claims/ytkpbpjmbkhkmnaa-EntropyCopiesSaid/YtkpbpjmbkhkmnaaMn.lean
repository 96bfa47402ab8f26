/- One operation; regions in the order of the text; code. -/
import Derived.Test.YtkpbpjmbkhkmnaaMm
set_option linter.unusedVariables false
set_option linter.unusedSimpArgs false
namespace Hyp
open Go
/-- What is known of a function that is called: what it does; its parameters' types; which of its slices are lent. -/
structure CallE where
  S : Summ
  ts : List TypeId
  ms : List Bool
abbrev Tab := FuncId → Option CallE
def TabOK (P : Program) (tab : Tab) : Prop := ∀ g e, tab g = some e → SoundF P g e.S ∧ ∃ fn, P.funcs[g]? = some fn ∧ callable fn = true
def anyT : List Bool → Bool
  | [] => false
  | x :: l => x || anyT l
def withLB (L : List En) (b : Nat) (t : Tree AV) : Tree MR := t.bind fun a => .ret (a, L, b)
def isSlStr (P : Program) (S T : TypeId) : Bool := isSlT P S && isStrT P T
def opT (P : Program) (tab : Tab) (op : Op) (r : Operand → AV) (L : List En) (b : Nat) : Tree MR := match op with
  | .move x => .ret (r x, L, b)
  | .assign x => .ret (r x, L, b)
  | .pick c x y => match r c with
    | .tt => .ret (r x, L, b)
    | .ff => .ret (r y, L, b)
    | .val .bool d => .ret (mergeAV d (r x) (r y), L, b)
    | _ => .fail
  | .nilCheck x => withLB L b (nilCheckT (r x))
  | .alloc t => allocT P t L b
  | .box _ x => boxT (r x) L b
  | .build t ps => withLB L b (buildT P t r ps.toList)
  | .buildSlice t n ps => match n, ps.toList with
    | 0, [] => buildSliceT P t 0 r [] L b
    | 0, _ => .fail
    | n + 1, l => buildSliceT P t (n + 1) r l L b
  | .load t x => withLB L b (loadT P t (r x) L)
  | .store t x y => storeT P t (r x) (r y) L b
  | .binOp op t x y _ => withLB L b (binT P t op (isC y) (r x) (r y))
  | .unOp op _ x => withLB L b (unT op (r x))
  | .convert s t x => bif isSlStr P s t then withLB L b (bytesStrT P s t (r x) L) else withLB L b (intT P s t (r x))
  | .fieldAddr t x i => withLB L b (fieldAddrT P t (r x) i)
  | .indexAddr t x i => withLB L b (indexAddrT P t (isC i) (normW L (r x)) (r i) L)
  | .index t x i => withLB L b (indexT P t (r x) (r i))
  | .slice t x lo hi mx => withLB L b (sliceT P (fun o => normW L (r o)) t (normW L (r x)) lo hi mx)
  | .extract t i => withLB L b (extractT (r t) i)
  | .call ⟨.builtin .len, args, ts⟩ => match args.toList, ts.toList with
    | [x], [t] => withLB L b (lenT P t (normW L (r x)))
    | _, _ => .fail
  | .call ⟨.builtin .append, args, ts⟩ => match args.toList, ts.toList with
    | [x, y], [t, t'] => bif Nat.beq t t' then appendT P t (r x) (r y) L b else .fail
    | _, _ => .fail
  | .call ⟨.value (.func g), args, _⟩ => match tab g with
    | some e => bif anyT e.ms then .fail else callT e.S (args.toList.map r) L b
    | none => .fail
  | _ => .fail
section
variable {P : Program} {ty T U : TypeId} {f : Fr} {w w' : World} {B : Base} {ν ν' : Nms} {b b' : Nat} {Z Z' : Nat → Prop} {L L' L1 L2 : List En} {F : List Ent} {r : Operand → AV} {tab : Tab}
theorem listArr {α : Type} {a : Array α} {l : List α} (h : a.toList = l) : a = l.toArray := by subst h; simp
theorem slotsMap (hr : ∀ x, slotR ν b Z w (r x) (ev f x)) : ∀ l : List Operand, slotsR ν b Z w (l.map r) (l.map (ev f))
  | [] => trivial
  | x :: l => ⟨hr x, slotsMap hr l⟩
theorem M_fail {op : Op} : M P op ty f B ν b w L F .fail := by intro a L' b' h; cases h
theorem opT_ok {op : Op} (ht : TabOK P tab) (H : Here B ν b w L F) (hr : ∀ x, slotR ν b (B.Z (ents ν L ++ F)) w (r x) (ev f x)) : M P op ty f B ν b w L F (opT P tab op r L b) := by
  have hn : ∀ x, slotR ν b (B.Z (ents ν L ++ F)) w (normW L (r x)) (ev f x) := fun x => normW_ok H (hr x)
  unfold opT
  split
  · exact Q.m (t := .ret _) H (moveT_ok (hr _))
  · exact Q.m (t := .ret _) H (assignT_ok (hr _))
  · rename_i c x y
    split
    · rename_i hc
      intro a L' b' h; cases h
      have := hr c
      rw [hc] at this
      exact o_pick (sl_tt this) ⟨ν, H.stay, hr x⟩
    · rename_i hc
      intro a L' b' h; cases h
      have := hr c
      rw [hc] at this
      exact o_pick (sl_ff this) ⟨ν, H.stay, hr y⟩
    · rename_i d hc
      intro a L' b' h; cases h
      have := hr c
      rw [hc] at this
      refine o_pick (sl_bool this) ⟨ν, H.stay, mergeAV_ok (fun h => ?_) (fun h => ?_)⟩
      · subst h; exact hr x
      · subst h; exact hr y
    · exact M_fail
  · exact Q.m H (nilCheckT_ok (hr _))
  · exact allocT_ok H
  · exact boxT_ok H (hr _)
  · exact Q.m H (buildT_ok hr)
  · rename_i t n ps
    split
    · rename_i hp
      have : ps = #[] := listArr hp
      subst this
      exact buildSliceT_ok (parts := #[]) H hr (fun _ => rfl)
    · exact M_fail
    · exact buildSliceT_ok H hr (fun h => by cases h)
  · exact Q.m H (loadT_ok H (hr _))
  · exact storeT_ok H (hr _) (hr _)
  · exact Q.m H (binT_ok (hr _) (hr _))
  · exact Q.m H (unT_ok (hr _))
  · rename_i s t x
    cases isSlStr P s t
    · exact Q.m H (intT_ok (hr _))
    · exact Q.m H (bytesStrT_ok H (hr _))
  · exact Q.m H (fieldAddrT_ok (hr _))
  · exact Q.m H (indexAddrT_ok H (hn _) (hr _))
  · exact Q.m H (indexT_ok (hr _) (hr _))
  · exact Q.m H (sliceT_ok (r := fun o => normW L (r o)) hn rfl)
  · exact Q.m H (extractT_ok (hr _))
  · rename_i args ts
    split
    · rename_i x t h1 h2
      rw [listArr h1, listArr h2]
      exact Q.m H (lenT_ok (hn _))
    · exact M_fail
  · rename_i args ts
    split
    · rename_i x y t t' h1 h2
      cases hb : Nat.beq t t'
      · exact M_fail
      · have := Nat.eq_of_beq_eq_true hb
        subst this
        rw [listArr h1, listArr h2]
        exact appendT_ok H (hr _) (hr _)
    · exact M_fail
  · rename_i g args ts
    split
    · rename_i e he
      cases anyT e.ms
      · obtain ⟨h1, fn, h2, h3⟩ := ht g e he
        exact callT_ok (c := ⟨.value (.func g), args, ts⟩) (args := args.toList) h1 rfl h2 h3 (by simp) H (slotsMap hr _)
      · exact M_fail
    · exact M_fail
  · exact M_fail
end
/-! ### Regions -/
structure St where
  sl : Nat → AV
  L : List En
  b : Nat
def updA (sl : Nat → AV) (d : Nat) (a : AV) : Nat → AV := fun t => bif Nat.beq t d then a else sl t
def updAo (sl : Nat → AV) : Option Nat → AV → Nat → AV
  | none, _ => sl
  | some d, a => updA sl d a
/-- What holds where one stands: since the begin at ν0, b0, w0, L0. -/
def SRel (B : Base) (ν0 : Nms) (b0 : Nat) (w0 : World) (L0 : List En) (F : List Ent) (st : St) (f : Fr) (w : World) : Prop :=
  ∃ ν, Left B ν0 b0 w0 L0 F ν st.b w st.L ∧ ∀ t, slotR ν st.b (B.Z (ents ν st.L ++ F)) w (st.sl t) (f t)
/-- The guard of an operation: whether it is done; or the slot that is to be asked. -/
inductive Gd
  | yes | no | bad
  | ask (d : Nat) (want : Bool) (x : Bool)
def gdOf (ops : Array Oper) (sl : Nat → AV) : Option (Nat × Bool) → Gd
  | none => .yes
  | some (j, want) => match (ops[j]?).bind (·.dst) with
    | none => .bad
    | some d => match sl d with
      | .tt => bif want then .yes else .no
      | .ff => bif want then .no else .yes
      | .und => .no
      | .val .bool x => .ask d want x
      | _ => .bad
/-- It changes no memory. -/
def quietOp : Op → Bool
  | .move _ | .assign _ | .pick _ _ _ | .nilCheck _ | .load _ _ | .binOp _ _ _ _ _ | .unOp _ _ _ | .fieldAddr _ _ _ | .extract _ _ | .convert _ _ _ => true
  | .call ⟨.builtin .len, _, _⟩ => true
  | _ => false
def forceMR (q : Bool) (r : AV × List En × Nat) (L : List En) (b : Nat) (K : AV → List En → Nat → Tree St) : Tree St := r.1.force fun a => bif q then K a L b else forceL r.2.1 fun L => forceN r.2.2 fun b => K a L b
def stepT (P : Program) (tab : Tab) (o : Oper) : St → Tree St
  | ⟨sl, L, b⟩ => (opT P tab o.op (opA sl) L b).bind fun r => forceMR (quietOp o.op) r L b fun a L b => .ret ⟨updAo sl o.dst a, L, b⟩
def quietL : List Oper → Bool
  | [] => true
  | o :: l => quietOp o.op && quietL l
def dsts : List Oper → List Nat
  | [] => []
  | o :: l => match o.dst with | some d => d :: dsts l | none => dsts l
/-- Two ends that become one. -/
def joinSl (x : Bool) (s1 s2 : Nat → AV) : List Nat → (Nat → AV) → Tree (Nat → AV)
  | [], sl => .ret sl
  | d :: ds, sl => (mergeAV x (s1 d) (s2 d)).force fun a => joinSl x s1 s2 ds (updA sl d a)
theorem joinSl_eq (x : Bool) (s1 s2 : Nat → AV) : ∀ (ds : List Nat) (sl : Nat → AV), joinSl x s1 s2 ds sl = .ret fun t => bif memN ds t then mergeAV x (s1 t) (s2 t) else sl t
  | [], sl => rfl
  | d :: ds, sl => by
    unfold joinSl
    rw [AV.force_eq, joinSl_eq x s1 s2 ds]
    congr 1
    funext t
    unfold updA
    simp only [memN]
    cases h1 : Nat.beq t d
    · have h2 : Nat.beq d t = false := by
        cases h : Nat.beq d t
        · rfl
        · obtain rfl := Nat.eq_of_beq_eq_true h
          rw [h] at h1; cases h1
      simp [h2]
    · obtain rfl := Nat.eq_of_beq_eq_true h1
      cases memN ds t <;> simp
def joinT (x : Bool) (st : St) (ds : List Nat) : Tree (Nat → AV) → Tree (Nat → AV) → Tree (Nat → AV)
  | .ret s1, .ret s2 => joinSl x s1 s2 ds st.sl
  | t1, t2 => .ite x t1 t2
/-- The rest of a region that changes no memory. -/
def evQ (P : Program) (ops : Array Oper) (L : List En) (b : Nat) : List Oper → (Nat → AV) → Tree (Nat → AV)
  | [], sl => .ret sl
  | o :: l, sl => match gdOf ops sl o.guard with
    | .yes => (opT P (fun _ => none) o.op (opA sl) L b).bind fun r => r.1.force fun a => evQ P ops L b l (updAo sl o.dst a)
    | .no => evQ P ops L b l (updAo sl o.dst .und)
    | .bad => .fail
    | .ask d want x => joinT x ⟨sl, L, b⟩ (dsts (o :: l))
        (bif want then (opT P (fun _ => none) o.op (opA (updA sl d .tt)) L b).bind fun r => r.1.force fun a => evQ P ops L b l (updAo (updA sl d .tt) o.dst a) else evQ P ops L b l (updAo (updA sl d .tt) o.dst .und))
        (bif want then evQ P ops L b l (updAo (updA sl d .ff) o.dst .und) else (opT P (fun _ => none) o.op (opA (updA sl d .ff)) L b).bind fun r => r.1.force fun a => evQ P ops L b l (updAo (updA sl d .ff) o.dst a))
def evL (P : Program) (tab : Tab) (ops : Array Oper) : List Oper → St → Tree St
  | [], st => .ret st
  | o :: l, ⟨sl, L, b⟩ => match gdOf ops sl o.guard with
    | .yes => (stepT P tab o ⟨sl, L, b⟩).bind fun st' => evL P tab ops l st'
    | .no => evL P tab ops l ⟨updAo sl o.dst .und, L, b⟩
    | .bad => .fail
    | .ask d want x => bif quietL (o :: l) then (evQ P ops L b (o :: l) sl).bind fun sl => .ret ⟨sl, L, b⟩ else
        .ite x (bif want then (stepT P tab o ⟨updA sl d .tt, L, b⟩).bind fun st' => evL P tab ops l st' else evL P tab ops l ⟨updAo (updA sl d .tt) o.dst .und, L, b⟩)
          (bif want then evL P tab ops l ⟨updAo (updA sl d .ff) o.dst .und, L, b⟩ else (stepT P tab o ⟨updA sl d .ff, L, b⟩).bind fun st' => evL P tab ops l st')
section
variable {P : Program} {ty T U : TypeId} {f : Fr} {w w' : World} {B : Base} {ν ν' : Nms} {b b' : Nat} {Z Z' : Nat → Prop} {L L' L1 L2 : List En} {F : List Ent} {r : Operand → AV} {tab : Tab} {n : Nat} {ops : Array Oper} {Q : Post}
theorem quiet_ok {op : Op} (hq : quietOp op = true) (H : Here B ν b w L F) (hr : ∀ x, slotR ν b (B.Z (ents ν L ++ F)) w (r x) (ev f x)) {res : MR} (h : (opT P tab op r L b).run = some res) :
    ∃ a, res = (a, L, b) ∧ OpW P op ty f w fun v w' => w' = w ∧ slotR ν b (B.Z (ents ν L ++ F)) w a v := by
  have hn : ∀ x, slotR ν b (B.Z (ents ν L ++ F)) w (normW L (r x)) (ev f x) := fun x => normW_ok H (hr x)
  have key : ∀ {op : Op} {t : Tree AV} {res : MR}, Hyp.Q P op ty f w ν b (B.Z (ents ν L ++ F)) t → (withLB L b t).run = some res → ∃ a, res = (a, L, b) ∧ OpW P op ty f w fun v w' => w' = w ∧ slotR ν b (B.Z (ents ν L ++ F)) w a v := by
    intro op t res hQ h
    obtain ⟨a, h1, h2⟩ := Tree.bind_some h
    cases h2
    exact ⟨a, rfl, hQ a h1⟩
  unfold quietOp at hq
  split at hq
  · cases h; exact ⟨_, rfl, o_move ⟨rfl, hr _⟩⟩
  · cases h; exact ⟨_, rfl, o_assign ⟨rfl, hr _⟩⟩
  · rename_i c x y
    simp only [opT] at h
    split at h
    · rename_i hc
      cases h
      have := hr c
      rw [hc] at this
      exact ⟨_, rfl, o_pick (sl_tt this) ⟨rfl, hr x⟩⟩
    · rename_i hc
      cases h
      have := hr c
      rw [hc] at this
      exact ⟨_, rfl, o_pick (sl_ff this) ⟨rfl, hr y⟩⟩
    · rename_i d hc
      cases h
      have := hr c
      rw [hc] at this
      refine ⟨_, rfl, o_pick (sl_bool this) ⟨rfl, mergeAV_ok (fun h => ?_) (fun h => ?_)⟩⟩
      · subst h; exact hr x
      · subst h; exact hr y
    · cases h
  · exact key (nilCheckT_ok (hr _)) h
  · exact key (loadT_ok H (hr _)) h
  · exact key (binT_ok (hr _) (hr _)) h
  · exact key (unT_ok (hr _)) h
  · exact key (fieldAddrT_ok (hr _)) h
  · exact key (extractT_ok (hr _)) h
  · rename_i s t x
    simp only [opT] at h
    cases hc : isSlStr P s t <;> rw [hc] at h
    · exact key (intT_ok (hr _)) h
    · exact key (bytesStrT_ok H (hr _)) h
  · rename_i args ts
    simp only [opT] at h
    split at h
    · rename_i x t h1 h2
      rw [listArr h1, listArr h2]
      exact key (lenT_ok (hn _)) h
    · cases h
  · cases hq
theorem opT_quiet {op : Op} (hq : quietOp op = true) {res : MR} (h : (opT P tab op r L b).run = some res) : (opT P (fun _ => none) op r L b).run = some res := by
  unfold quietOp at hq
  split at hq <;> first | exact h | cases hq
theorem L_unwanted {o : Oper} {l : List Oper} (hw : ∀ a, Good n f a → Region.wanted o (yielded ops a.tmps) = false) (h : Hyp.L P n ops Q l (updo f o.dst undef) w) : Hyp.L P n ops Q (o :: l) f w := by
  intro hb a ha
  simp only [wpList, hw a ha, if_false, Bool.false_eq_true]
  have hput := ha.put o.dst (bnd_cons hb).1 undef
  have := h (bnd_cons hb).2 _ hput
  cases hd : o.dst with
  | none => rw [hd] at this; exact this
  | some d => rw [hd] at this; exact this
theorem gd_yes {o : Oper} {sl : Nat → AV} (hs : ∀ t, slotR ν b Z w (sl t) (f t)) (h : gdOf ops sl o.guard = .yes) : ∀ a, Good n f a → Region.wanted o (yielded ops a.tmps) = true := by
  intro a ha
  unfold gdOf at h
  split at h
  · rename_i hg; simp [Region.wanted, hg]
  · rename_i j want hg
    split at h
    · cases h
    · rename_i d hd
      split at h
      · rename_i hv
        have hv' := hs d
        rw [hv] at hv'
        have := yields ha hd (sl_tt hv')
        cases want <;> simp at h
        simp [Region.wanted, hg, this]
      · rename_i hv
        have hv' := hs d
        rw [hv] at hv'
        have := yields ha hd (sl_ff hv')
        cases want <;> simp at h
        simp [Region.wanted, hg, this]
      · cases h
      · cases h
      · cases h
theorem gd_no {o : Oper} {sl : Nat → AV} (hs : ∀ t, slotR ν b Z w (sl t) (f t)) (h : gdOf ops sl o.guard = .no) : ∀ a, Good n f a → Region.wanted o (yielded ops a.tmps) = false := by
  intro a ha
  unfold gdOf at h
  split at h
  · cases h
  · rename_i j want hg
    split at h
    · cases h
    · rename_i d hd
      split at h
      · rename_i hv
        have hv' := hs d
        rw [hv] at hv'
        have := yields ha hd (sl_tt hv')
        cases want <;> simp at h
        simp [Region.wanted, hg, this]
      · rename_i hv
        have hv' := hs d
        rw [hv] at hv'
        have := yields ha hd (sl_ff hv')
        cases want <;> simp at h
        simp [Region.wanted, hg, this]
      · rename_i hv
        have hv' := hs d
        rw [hv] at hv'
        have := yieldsG ha hd (y := none) hv'
        simp [Region.wanted, hg, this]
      · cases h
      · cases h
theorem gd_ask {o : Oper} {sl : Nat → AV} {d : Nat} {want x : Bool} (hs : ∀ t, slotR ν b Z w (sl t) (f t)) (h : gdOf ops sl o.guard = .ask d want x) : f d = .bool x ∧ ∀ a, Good n f a → Region.wanted o (yielded ops a.tmps) = (x == want) := by
  unfold gdOf at h
  split at h
  · cases h
  · rename_i j want' hg
    split at h
    · cases h
    · rename_i d' hd
      split at h
      · cases want' <;> cases h
      · cases want' <;> cases h
      · cases h
      · rename_i x' hv
        cases h
        have hv' := hs d
        rw [hv] at hv'
        have hb := sl_bool hv'
        refine ⟨hb, fun a ha => ?_⟩
        have := yields ha hd hb
        simp [Region.wanted, hg, this]
      · cases h
theorem sl_upd {sl : Nat → AV} {d : Nat} {a : AV} {v : Value} (hs : ∀ t, slotR ν b Z w (sl t) (f t)) (h : slotR ν b Z w a v) : ∀ t, slotR ν b Z w (updA sl d a t) (upd f d v t) := by
  intro t
  unfold updA upd
  cases Nat.beq t d
  · exact hs t
  · exact h
theorem sl_updo {sl : Nat → AV} {d : Option Nat} {a : AV} {v : Value} (hs : ∀ t, slotR ν b Z w (sl t) (f t)) (h : slotR ν b Z w a v) : ∀ t, slotR ν b Z w (updAo sl d a t) (updo f d v t) := by
  cases d with
  | none => exact hs
  | some d => exact sl_upd hs h
/-- A slot is told anew. -/
theorem sl_tell {sl : Nat → AV} {d : Nat} {a : AV} (hs : ∀ t, slotR ν b Z w (sl t) (f t)) (h : slotR ν b Z w a (f d)) : ∀ t, slotR ν b Z w (updA sl d a t) (f t) := by
  intro t
  unfold updA
  cases hc : Nat.beq t d
  · exact hs t
  · rw [Nat.eq_of_beq_eq_true hc]; exact h
theorem opA_ok {sl : Nat → AV} (hs : ∀ t, slotR ν b Z w (sl t) (f t)) : ∀ x, slotR ν b Z w (opA sl x) (ev f x) := by
  intro x
  cases x with
  | tmp t => exact hs t
  | const v => exact constAV_ok v
  | global g => trivial
  | func g => trivial
theorem dsts_cons {o : Oper} {l : List Oper} {t : Nat} (h : memN (dsts (o :: l)) t = false) : (∀ v, updo f o.dst v t = f t) ∧ memN (dsts l) t = false := by
  unfold dsts at h
  split at h
  · rename_i d hd
    simp only [memN, Bool.or_eq_false_iff] at h
    refine ⟨fun v => ?_, h.2⟩
    rw [hd]
    show upd f d v t = f t
    refine upd_ne _ _ ?_
    rintro rfl
    simp at h
  · rename_i hd
    exact ⟨fun v => by rw [hd]; rfl, h⟩
theorem joinT_run {x : Bool} {st : St} {ds : List Nat} {t1 t2 : Tree (Nat → AV)} {sl' : Nat → AV} (h : (joinT x st ds t1 t2).run = some sl') :
    ∃ s, (bif x then t1 else t2).run = some s ∧ (sl' = s ∨ ∃ s1 s2, (bif x then s1 else s2) = s ∧ sl' = fun t => bif memN ds t then mergeAV x (s1 t) (s2 t) else st.sl t) := by
  unfold joinT at h
  split at h
  · rename_i s1 s2
    rw [joinSl_eq] at h
    cases h
    refine ⟨bif x then s1 else s2, by cases x <;> rfl, .inr ⟨s1, s2, rfl, rfl⟩⟩
  · refine ⟨sl', ?_, .inl rfl⟩
    cases x <;> exact h
theorem evQ_ok (H : Here B ν b w L F) : ∀ (l : List Oper) (sl sl' : Nat → AV) (f : Fr), quietL l = true → (evQ P ops L b l sl).run = some sl' → (∀ t, slotR ν b (B.Z (ents ν L ++ F)) w (sl t) (f t)) →
    (∀ f', (∀ t, slotR ν b (B.Z (ents ν L ++ F)) w (sl' t) (f' t)) → (∀ t, memN (dsts l) t = false → f' t = f t) → Q .normal f' w) → Hyp.L P n ops Q l f w
  | [], sl, sl', f, _, h, hs, hk => by
    cases h
    exact L_nil (hk f hs fun _ _ => rfl)
  | o :: l, sl, sl', f, hq, h, hs, hk => by
    simp only [quietL, Bool.and_eq_true] at hq
    -- done, or not
    have yes : ∀ (sl sl' : Nat → AV), ((opT P (fun _ => none) o.op (opA sl) L b).bind fun r => r.1.force fun a => evQ P ops L b l (updAo sl o.dst a)).run = some sl' → (∀ t, slotR ν b (B.Z (ents ν L ++ F)) w (sl t) (f t)) →
        (∀ a, Good n f a → Region.wanted o (yielded ops a.tmps) = true) →
        (∀ f', (∀ t, slotR ν b (B.Z (ents ν L ++ F)) w (sl' t) (f' t)) → (∀ t, memN (dsts (o :: l)) t = false → f' t = f t) → Q .normal f' w) → Hyp.L P n ops Q (o :: l) f w := by
      intro sl sl' h hs hw hk
      obtain ⟨res, h1, h2⟩ := Tree.bind_some h
      rw [AV.force_eq] at h2
      obtain ⟨a, rfl, hop⟩ := quiet_ok (ty := o.type) hq.1 H (opA_ok hs) h1
      refine L_wanted hw (hop.mono ?_)
      rintro v w' ⟨hww, hv⟩
      rw [hww]
      refine evQ_ok H l _ sl' _ hq.2 h2 (sl_updo hs hv) fun f' g1 g2 => hk f' g1 fun t ht => ?_
      obtain ⟨q1, q2⟩ := dsts_cons (f := f) ht
      rw [g2 t q2, q1]
    have no : ∀ (sl sl' : Nat → AV), (evQ P ops L b l (updAo sl o.dst .und)).run = some sl' → (∀ t, slotR ν b (B.Z (ents ν L ++ F)) w (sl t) (f t)) →
        (∀ a, Good n f a → Region.wanted o (yielded ops a.tmps) = false) →
        (∀ f', (∀ t, slotR ν b (B.Z (ents ν L ++ F)) w (sl' t) (f' t)) → (∀ t, memN (dsts (o :: l)) t = false → f' t = f t) → Q .normal f' w) → Hyp.L P n ops Q (o :: l) f w := by
      intro sl sl' h hs hw hk
      refine L_unwanted hw ?_
      refine evQ_ok H l _ sl' _ hq.2 h (sl_updo hs rfl) fun f' g1 g2 => hk f' g1 fun t ht => ?_
      obtain ⟨q1, q2⟩ := dsts_cons (f := f) ht
      rw [g2 t q2, q1]
    unfold evQ at h
    split at h
    · rename_i hg
      exact yes sl sl' h hs (gd_yes hs hg) hk
    · rename_i hg
      exact no sl sl' h hs (gd_no hs hg) hk
    · cases h
    · rename_i d want x hg
      obtain ⟨hd, hw⟩ := gd_ask (n := n) hs hg
      obtain ⟨s, h1, h2⟩ := joinT_run h
      have fin : ∀ f', (∀ t, slotR ν b (B.Z (ents ν L ++ F)) w (s t) (f' t)) → (∀ t, memN (dsts (o :: l)) t = false → f' t = f t) → Q .normal f' w := by
        intro f' g1 g2
        refine hk f' ?_ g2
        rcases h2 with rfl | ⟨s1, s2, hs12, rfl⟩
        · exact g1
        · intro t
          cases hm : memN (dsts (o :: l)) t
          · simp only [hm, cond_false]
            rw [g2 t hm]
            exact hs t
          · simp only [hm, cond_true]
            refine mergeAV_ok (fun hx => ?_) (fun hx => ?_)
            · subst hx; have := g1 t; rw [← hs12] at this; exact this
            · subst hx; have := g1 t; rw [← hs12] at this; exact this
      cases x
      · have hs2 := sl_tell (a := .ff) hs (d := d) (by rw [hd]; exact rfl)
        cases want
        · exact yes _ s h1 hs2 (fun a ha => by rw [hw a ha]; rfl) fin
        · exact no _ s h1 hs2 (fun a ha => by rw [hw a ha]; rfl) fin
      · have hs2 := sl_tell (a := .tt) hs (d := d) (by rw [hd]; exact rfl)
        cases want
        · exact no _ s h1 hs2 (fun a ha => by rw [hw a ha]; rfl) fin
        · exact yes _ s h1 hs2 (fun a ha => by rw [hw a ha]; rfl) fin
theorem evL_ok {ν0 : Nms} {b0 : Nat} {w0 : World} {L0 : List En} (ht : TabOK P tab) : ∀ (l : List Oper) (st st' : St) (f : Fr) (w : World), (evL P tab ops l st).run = some st' → SRel B ν0 b0 w0 L0 F st f w →
    (∀ f' w', SRel B ν0 b0 w0 L0 F st' f' w' → (∀ t, memN (dsts l) t = false → f' t = f t) → Q .normal f' w') → Hyp.L P n ops Q l f w
  | [], st, st', f, w, h, hs, hk => by
    cases h
    exact L_nil (hk f w hs fun _ _ => rfl)
  | o :: l, st, st', f, w, h, hs, hk => by
    have yes : ∀ (st : St), ((stepT P tab o st).bind fun st' => evL P tab ops l st').run = some st' → SRel B ν0 b0 w0 L0 F st f w → (∀ a, Good n f a → Region.wanted o (yielded ops a.tmps) = true) → Hyp.L P n ops Q (o :: l) f w := by
      intro st h hs hw
      obtain ⟨st1, h1, h2⟩ := Tree.bind_some h
      obtain ⟨res, h3, h4⟩ := Tree.bind_some h1
      obtain ⟨ν, hl, hsl⟩ := hs
      have H := hl.here
      have hst : st1 = ⟨updAo st.sl o.dst res.1, res.2.1, res.2.2⟩ := by
        unfold forceMR at h4
        rw [AV.force_eq] at h4
        cases hq : quietOp o.op <;> rw [hq] at h4
        · rw [cond_false, forceL_eq, forceN_eq] at h4
          cases h4; rfl
        · obtain ⟨a, rfl, _⟩ := quiet_ok (ty := o.type) hq H (opA_ok hsl) (opT_quiet hq h3)
          cases h4; rfl
      subst hst
      refine L_wanted hw ((opT_ok (ty := o.type) ht H (opA_ok hsl) res.1 res.2.1 res.2.2 h3).mono ?_)
      rintro v w' ⟨ν', hl', hv⟩
      refine evL_ok ht l _ st' _ w' h2 ⟨ν', hl.trans hl', sl_updo (fun t => H.z hl' (hsl t)) hv⟩ fun f' w2 g1 g2 => hk f' w2 g1 fun t ht => ?_
      obtain ⟨q1, q2⟩ := dsts_cons (f := f) ht
      rw [g2 t q2, q1]
    have no : ∀ (st : St), (evL P tab ops l ⟨updAo st.sl o.dst .und, st.L, st.b⟩).run = some st' → SRel B ν0 b0 w0 L0 F st f w → (∀ a, Good n f a → Region.wanted o (yielded ops a.tmps) = false) → Hyp.L P n ops Q (o :: l) f w := by
      intro st h hs hw
      obtain ⟨ν, hl, hsl⟩ := hs
      refine L_unwanted hw ?_
      refine evL_ok ht l _ st' _ w h ⟨ν, hl, sl_updo hsl rfl⟩ fun f' w2 g1 g2 => hk f' w2 g1 fun t ht => ?_
      obtain ⟨q1, q2⟩ := dsts_cons (f := f) ht
      rw [g2 t q2, q1]
    obtain ⟨sl, L, b⟩ := st
    obtain ⟨ν, hl, hsl⟩ := hs
    unfold evL at h
    split at h
    · rename_i hg
      exact yes ⟨sl, L, b⟩ h ⟨ν, hl, hsl⟩ (gd_yes hsl hg)
    · rename_i hg
      exact no ⟨sl, L, b⟩ h ⟨ν, hl, hsl⟩ (gd_no hsl hg)
    · cases h
    · rename_i d want x hg
      obtain ⟨hd, hw⟩ := gd_ask (n := n) hsl hg
      cases hq : quietL (o :: l) <;> rw [hq] at h
      · simp only [cond_false, Tree.run] at h
        cases x
        · have hs2 : SRel B ν0 b0 w0 L0 F ⟨updA sl d .ff, L, b⟩ f w := ⟨ν, hl, sl_tell (a := .ff) hsl (d := d) (by rw [hd]; exact rfl)⟩
          cases want
          · exact yes ⟨updA sl d .ff, L, b⟩ h hs2 (fun a ha => by rw [hw a ha]; rfl)
          · exact no ⟨updA sl d .ff, L, b⟩ h hs2 (fun a ha => by rw [hw a ha]; rfl)
        · have hs2 : SRel B ν0 b0 w0 L0 F ⟨updA sl d .tt, L, b⟩ f w := ⟨ν, hl, sl_tell (a := .tt) hsl (d := d) (by rw [hd]; exact rfl)⟩
          cases want
          · exact no ⟨updA sl d .tt, L, b⟩ h hs2 (fun a ha => by rw [hw a ha]; rfl)
          · exact yes ⟨updA sl d .tt, L, b⟩ h hs2 (fun a ha => by rw [hw a ha]; rfl)
      · simp only [cond_true] at h
        obtain ⟨sl', h1, h2⟩ := Tree.bind_some h
        cases h2
        exact evQ_ok hl.here (o :: l) sl sl' f hq h1 hsl fun f' g1 g2 => hk f' w ⟨ν, hl, g1⟩ g2
end
end Hyp
