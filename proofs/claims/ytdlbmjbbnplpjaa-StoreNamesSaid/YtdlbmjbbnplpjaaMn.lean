/- One operation; regions in the order of the text; code. -/
import Derived.Test.YtdlbmjbbnplpjaaOh
set_option linter.unusedVariables false
set_option linter.unusedSimpArgs false
namespace Hyp
open Go
/-- What is known of a function that is called: what it does; its parameters' types; which of its slices are lent. -/
structure CallE where
  S : Summ
  ts : List TypeId
  ms : List Bool
  fz : Bool := false
abbrev Tab := FuncId → Option CallE
def TabOK (P : Program) (tab : Tab) : Prop := ∀ g e, tab g = some e → SoundF P g e.S ∧ ∃ fn, P.funcs[g]? = some fn ∧ callable fn = true
def anyT : List Bool → Bool
  | [] => false
  | x :: l => x || anyT l
def withLB (L : List En) (b : Nat) (t : Tree AV) : Tree MR := t.bind fun a => .ret (a, L, b)
def isSlStr (P : Program) (S T : TypeId) : Bool := isSlT P S && isStrT P T
def isStrSl (P : Program) (S T : TypeId) : Bool := isStrT P S && isSlT P T
def isMpv : AV → Bool
  | .mpv _ => true
  | _ => false
def opT (P : Program) (tab : Tab) (op : Op) (r : Operand → AV) (L : List En) (b : Nat) : Tree MR := match op with
  | .move x => .ret (r x, L, b)
  | .assign x => .ret (r x, L, b)
  | .pick c x y => match r c with
    | .tt => .ret (r x, L, b)
    | .ff => .ret (r y, L, b)
    | .val .bool d => .ret (mergeAV d (r x) (r y), L, b)
    | _ => .fail
  | .nilCheck x => withLB L b (nilCheckT (r x))
  | .alloc t => allocT P t L b
  | .box _ x => boxT (r x) L b
  | .build t ps => withLB L b (buildT P t r ps.toList)
  | .buildSlice t n ps => match n, ps.toList with
    | 0, [] => buildSliceT P t 0 r [] L b
    | 0, _ => .fail
    | n + 1, l => buildSliceT P t (n + 1) r l L b
  | .load t x => withLB L b (loadT P t (r x) L)
  | .store t x y => storeT P t (r x) (r y) L b
  | .binOp op t x y _ => bif isNilSl y then withLB L b (nilSlT P t op (normW L (r x))) else withLB L b (bin2T P t op (isC y) (r x) (r y))
  | .unOp op _ x => withLB L b (unT op (r x))
  | .convert s t x => bif isStrSl P s t then strBytesT P s t (r x) L b else bif isSlStr P s t then withLB L b (bytesStrT P s t (r x) L) else withLB L b (intT P s t (r x))
  | .fieldAddr t x i => withLB L b (fieldAddrT P t (r x) i)
  | .indexAddr t x i => withLB L b (indexAddrT P t (isC i) (normW L (r x)) (r i) L)
  | .index t x i => withLB L b (indexT P t (r x) (r i))
  | .slice t x lo hi mx => withLB L b (sliceT P (fun o => normW L (r o)) t (normW L (r x)) lo hi mx)
  | .extract t i => withLB L b (extractT (r t) i)
  | .call ⟨.builtin .len, args, ts⟩ => match args.toList, ts.toList with
    | [x], [t] => bif isMpv (r x) then withLB L b (mapLenT P t (r x) L) else withLB L b (lenT P t (normW L (r x)))
    | _, _ => .fail
  | .call ⟨.builtin .min, args, _⟩ => match args.toList with
    | [x, y] => withLB L b (minmaxT false (r x) (r y))
    | _ => .fail
  | .call ⟨.builtin .max, args, _⟩ => match args.toList with
    | [x, y] => withLB L b (minmaxT true (r x) (r y))
    | _ => .fail
  | .call ⟨.builtin .delete, args, ts⟩ => match args.toList, ts.toList with
    | [x, y], [t, _] => mapDelT P t (r x) (r y) L b
    | _, _ => .fail
  | .field t x i => withLB L b (fieldT P t (r x) i)
  | .lookup t m k ok => withLB L b (lookupT P t (r m) (r k) ok L)
  | .mapUpdate t m k x => mapUpdT P t (r m) (r k) (r x) L b
  | .makeMap t none => makeMapT P t L b
  | .range t x => rangeT P t (r x) L b
  | .next x false => nextT (r x) L b
  | .entry x => withLB L b (entryT (r x) L)
  | .makeFunc fn first caps => withLB L b (makeFuncT fn first.toList (caps.toList.map r))
  | .call ⟨.builtin .append, args, ts⟩ => match args.toList, ts.toList with
    | [x, y], [t, t'] => bif Nat.beq t t' then appendT P t (r x) (r y) L b else .fail
    | _, _ => .fail
  | .call ⟨.value (.func g), args, _⟩ => match tab g with
    | some e => bif anyT e.ms then .fail else callT e.S (args.toList.map r) L b
    | none => .fail
  | .call ⟨.value x, args, _⟩ => match r x with
    | .clo g a => match tab g, capsL a with
      | some e, some caps => bif anyT e.ms then .fail else callT e.S (args.toList.map r ++ caps) L b
      | _, _ => .fail
    | _ => .fail
  | _ => .fail
/-- The rows within aggregates. -/
def aggKeys : List AV → List Nat
  | [] => []
  | .agg a :: l => a.keys ++ aggKeys l
  | _ :: l => aggKeys l
/-- Of which operands the rows must be only read; calls as the table tells. -/
def frzKeysT (tab : Tab) (r : Operand → AV) (L : List En) (op : Op) : List Nat := match op with
  | .call c => match c.callee with
    | .value (.func g) => match tab g with
      | some e => bif e.fz then aggKeys (c.args.toList.map r) else []
      | none => []
    | _ => []
  | op => frzKeys r L op
/-- The same, with rows given up ahead of it where that must be. -/
def opF (P : Program) (tab : Tab) (op : Op) (r : Operand → AV) (L : List En) (b : Nat) : Tree MR := match frzKeysT tab r L op with
  | [] => opT P tab op r L b
  | k :: ks => match frzR (k :: ks) r L with
    | (r', L') => opT P tab op r' L' b
section
variable {P : Program} {ty T U : TypeId} {f : Fr} {w w' : World} {B : Base} {ν ν' : Nms} {b b' : Nat} {Z Z' : Nat → Prop} {L L' L1 L2 : List En} {F : List Ent} {r : Operand → AV} {tab : Tab}
theorem listArr {α : Type} {a : Array α} {l : List α} (h : a.toList = l) : a = l.toArray := by subst h; simp
theorem slotsMap (hr : ∀ x, slotR ν b Z w (r x) (ev f x)) : ∀ l : List Operand, slotsR ν b Z w (l.map r) (l.map (ev f))
  | [] => trivial
  | x :: l => ⟨hr x, slotsMap hr l⟩
theorem M_fail {op : Op} : M P op ty f B ν b w L F .fail := by intro a L' b' h; cases h
theorem d_lb {t : Tree AV} (h : t.Det) : (withLB L b t).Det := h.bind fun _ => trivial
theorem M'_fail {op : Op} : M' P op ty f B ν b w L F .fail := fun _ h => h.elim
theorem opT_ok' {op : Op} (ht : TabOK P tab) (H : Here B ν b w L F) (hr : ∀ x, slotR ν b (B.Z (ents ν L ++ F)) w (r x) (ev f x)) : M' P op ty f B ν b w L F (opT P tab op r L b) := by
  have hn : ∀ x, slotR ν b (B.Z (ents ν L ++ F)) w (normW L (r x)) (ev f x) := fun x => normW_ok H (hr x)
  unfold opT
  split
  · exact (Q.m (t := .ret _) H (moveT_ok (hr _))).m' trivial
  · exact (Q.m (t := .ret _) H (assignT_ok (hr _))).m' trivial
  · rename_i c x y
    split
    · rename_i hc
      refine M.m' (fun a L' b' h => ?_) trivial
      cases h
      have := hr c
      rw [hc] at this
      exact o_pick (sl_tt this) ⟨ν, H.stay, hr x⟩
    · rename_i hc
      refine M.m' (fun a L' b' h => ?_) trivial
      cases h
      have := hr c
      rw [hc] at this
      exact o_pick (sl_ff this) ⟨ν, H.stay, hr y⟩
    · rename_i d hc
      refine M.m' (fun a L' b' h => ?_) trivial
      cases h
      have := hr c
      rw [hc] at this
      refine o_pick (sl_bool this) ⟨ν, H.stay, mergeAV_ok (fun h => ?_) (fun h => ?_)⟩
      · subst h; exact hr x
      · subst h; exact hr y
    · exact M'_fail
  · exact (Q.m H (nilCheckT_ok (hr _))).m' (d_lb d_nilCheck)
  · exact (allocT_ok H).m' d_alloc
  · exact (boxT_ok H (hr _)).m' d_box
  · exact (Q.m H (buildT_ok hr)).m' (d_lb d_build)
  · rename_i t n ps
    split
    · rename_i hp
      have : ps = #[] := listArr hp
      subst this
      exact (buildSliceT_ok (parts := #[]) H hr (fun _ => rfl)).m' d_buildSlice
    · exact M'_fail
    · exact (buildSliceT_ok H hr (fun h => by cases h)).m' d_buildSlice
  · exact (Q.m H (loadT_ok H (hr _))).m' (d_lb d_load)
  · exact (storeT_ok H (hr _) (hr _)).m' d_store
  · rename_i o t x y u
    cases hnil : isNilSl y
    · exact (Q.m H (bin2T_ok (hr _) (hr _))).m' (d_lb d_bin2)
    · exact nilSlT_ok H (hn _) hnil
  · exact (Q.m H (unT_ok (hr _))).m' (d_lb d_un)
  · rename_i s t x
    cases isStrSl P s t
    rotate_left
    · exact (strBytesT_ok H (hr _)).m' d_strBytes
    cases isSlStr P s t
    · exact (Q.m H (intT_ok (hr _))).m' (d_lb d_int)
    · exact (Q.m H (bytesStrT_ok H (hr _))).m' (d_lb d_bytesStr)
  · exact (Q.m H (fieldAddrT_ok (hr _))).m' (d_lb d_fieldAddr)
  · exact (Q.m H (indexAddrT_ok H (hn _) (hr _))).m' (d_lb d_indexAddr)
  · exact (Q.m H (indexT_ok (hr _) (hr _))).m' (d_lb d_index)
  · exact (Q.m H (sliceT_ok (r := fun o => normW L (r o)) hn rfl)).m' (d_lb d_slice)
  · exact (Q.m H (extractT_ok (hr _))).m' (d_lb d_extract)
  · rename_i args ts
    split
    · rename_i x t h1 h2
      rw [listArr h1, listArr h2]
      cases isMpv (r x)
      · exact (Q.m H (lenT_ok (hn _))).m' (d_lb d_len)
      · exact (Q.m H (mapLenT_ok H (hr _))).m' (d_lb d_mapLen)
    · exact M'_fail
  · rename_i args ts
    split
    · rename_i x y h1
      rw [listArr h1]
      exact (Q.m H (minmaxT_ok (mx := false) (hr _) (hr _))).m' (d_lb d_minmax)
    · exact M'_fail
  · rename_i args ts
    split
    · rename_i x y h1
      rw [listArr h1]
      exact (Q.m H (minmaxT_ok (mx := true) (hr _) (hr _))).m' (d_lb d_minmax)
    · exact M'_fail
  · rename_i args ts
    split
    · rename_i x y t u h1 h2
      rw [listArr h1, listArr h2]
      exact (mapDelT_ok H (hr _) (hr _)).m' d_mapDel
    · exact M'_fail
  · exact (Q.m H (fieldT_ok (hr _))).m' (d_lb d_fieldT)
  · exact (Q.m H (lookupT_ok H (hr _) (hr _))).m' (d_lb d_lookup)
  · exact (mapUpdT_ok H (hr _) (hr _) (hr _)).m' d_mapUpd
  · exact (makeMapT_ok H).m' d_makeMap
  · exact (rangeT_ok H (hr _)).m' d_range
  · exact nextT_ok H (hr _)
  · exact (Q.m H (entryT_ok H (hr _))).m' (d_lb d_entry)
  · exact (Q.m H (makeFuncT_ok hr)).m' (d_lb d_makeFunc)
  · rename_i args ts
    split
    · rename_i x y t t' h1 h2
      cases hb : Nat.beq t t'
      · exact M'_fail
      · have := Nat.eq_of_beq_eq_true hb
        subst this
        rw [listArr h1, listArr h2]
        exact (appendT_ok H (hr _) (hr _)).m' d_append
    · exact M'_fail
  · rename_i g args ts
    split
    · rename_i e he
      cases anyT e.ms
      · obtain ⟨h1, fn, h2, h3⟩ := ht g e he
        exact callT_ok (c := ⟨.value (.func g), args, ts⟩) (args := args.toList) h1 rfl h2 h3 (by simp) H (slotsMap hr _)
      · exact M'_fail
    · exact M'_fail
  · rename_i x args ts _
    split
    · rename_i g a hx
      split
      · rename_i e caps he hcaps
        cases anyT e.ms
        · obtain ⟨h1, fn, h2, h3⟩ := ht g e he
          have hsx := hr x
          rw [hx] at hsx
          exact callV_ok h1 h2 h3 hsx hcaps H (slotsMap hr _)
        · exact M'_fail
      · exact M'_fail
    · exact M'_fail
  · exact M'_fail
theorem opF_ok' {op : Op} (ht : TabOK P tab) (H : Here B ν b w L F) (hr : ∀ x, slotR ν b (B.Z (ents ν L ++ F)) w (r x) (ev f x)) : M' P op ty f B ν b w L F (opF P tab op r L b) := by
  unfold opF
  split
  · exact opT_ok' ht H hr
  · rename_i k ks _
    obtain ⟨h1, h2⟩ := frzR_ok (ks := k :: ks) H hr
    exact M'.pre h1 (opT_ok' ht h1.here h2)
theorem opF_ok {op : Op} (ht : TabOK P tab) (H : Here B ν b w L F) (hr : ∀ x, slotR ν b (B.Z (ents ν L ++ F)) w (r x) (ev f x)) : M P op ty f B ν b w L F (opF P tab op r L b) := (opF_ok' ht H hr).m
theorem opT_ok {op : Op} (ht : TabOK P tab) (H : Here B ν b w L F) (hr : ∀ x, slotR ν b (B.Z (ents ν L ++ F)) w (r x) (ev f x)) : M P op ty f B ν b w L F (opT P tab op r L b) := (opT_ok' ht H hr).m
end
/-! ### Regions -/
structure St where
  sl : Nat → AV
  L : List En
  b : Nat
def updA (sl : Nat → AV) (d : Nat) (a : AV) : Nat → AV := fun t => bif Nat.beq t d then a else sl t
def updAo (sl : Nat → AV) : Option Nat → AV → Nat → AV
  | none, _ => sl
  | some d, a => updA sl d a
/-- What holds where one stands: since the begin at ν0, b0, w0, L0. -/
def SRel (B : Base) (ν0 : Nms) (b0 : Nat) (w0 : World) (L0 : List En) (F : List Ent) (st : St) (f : Fr) (w : World) : Prop :=
  ∃ ν, Left B ν0 b0 w0 L0 F ν st.b w st.L ∧ ∀ t, slotR ν st.b (B.Z (ents ν st.L ++ F)) w (st.sl t) (f t)
/-- The guard of an operation: whether it is done; or the slot that is to be asked. -/
inductive Gd
  | yes | no | bad
  | ask (d : Nat) (want : Bool) (x : Bool)
def gdOf (ops : Array Oper) (sl : Nat → AV) : Option (Nat × Bool) → Gd
  | none => .yes
  | some (j, want) => match (ops[j]?).bind (·.dst) with
    | none => .bad
    | some d => match sl d with
      | .tt => bif want then .yes else .no
      | .ff => bif want then .no else .yes
      | .und => .no
      | .val .bool x => .ask d want x
      | _ => .bad
/-- It changes no memory. -/
def quietOp (P : Program) : Op → Bool
  | .move _ | .assign _ | .pick _ _ _ | .nilCheck _ | .load _ _ | .unOp _ _ _ | .fieldAddr _ _ _ | .extract _ _ | .field _ _ _ | .lookup _ _ _ _ => true
  | .binOp _ _ _ y _ => !(isNilSl y)
  | .convert s t _ => !(isStrSl P s t)
  | .call ⟨.builtin .len, _, _⟩ => true
  | _ => false
def forceMR (q : Bool) (r : AV × List En × Nat) (L : List En) (b : Nat) (K : AV → List En → Nat → Tree St) : Tree St := r.1.force fun a => bif q then K a L b else forceL r.2.1 fun L => forceN r.2.2 fun b => K a L b
def stepT (P : Program) (tab : Tab) (o : Oper) : St → Tree St
  | ⟨sl, L, b⟩ => (opF P tab o.op (opA sl) L b).bind fun r => forceMR (quietOp P o.op) r L b fun a L b => .ret ⟨updAo sl o.dst a, L, b⟩
def quietL (P : Program) : List Oper → Bool
  | [] => true
  | o :: l => quietOp P o.op && quietL P l
def dsts : List Oper → List Nat
  | [] => []
  | o :: l => match o.dst with | some d => d :: dsts l | none => dsts l
/-- Two ends that become one. -/
def joinSl (x : Bool) (s1 s2 : Nat → AV) : List Nat → (Nat → AV) → Tree (Nat → AV)
  | [], sl => .ret sl
  | d :: ds, sl => (mergeAV x (s1 d) (s2 d)).force fun a => joinSl x s1 s2 ds (updA sl d a)
theorem joinSl_eq (x : Bool) (s1 s2 : Nat → AV) : ∀ (ds : List Nat) (sl : Nat → AV), joinSl x s1 s2 ds sl = .ret fun t => bif memN ds t then mergeAV x (s1 t) (s2 t) else sl t
  | [], sl => rfl
  | d :: ds, sl => by
    unfold joinSl
    rw [AV.force_eq, joinSl_eq x s1 s2 ds]
    congr 1
    funext t
    unfold updA
    simp only [memN]
    cases h1 : Nat.beq t d
    · have h2 : Nat.beq d t = false := by
        cases h : Nat.beq d t
        · rfl
        · obtain rfl := Nat.eq_of_beq_eq_true h
          rw [h] at h1; cases h1
      simp [h2]
    · obtain rfl := Nat.eq_of_beq_eq_true h1
      cases memN ds t <;> simp
def joinT (x : Bool) (st : St) (ds : List Nat) : Tree (Nat → AV) → Tree (Nat → AV) → Tree (Nat → AV)
  | .ret s1, .ret s2 => joinSl x s1 s2 ds st.sl
  | t1, t2 => .ite x t1 t2
/-- The rest of a region that changes no memory. -/
def evQ (P : Program) (ops : Array Oper) (L : List En) (b : Nat) : List Oper → (Nat → AV) → Tree (Nat → AV)
  | [], sl => .ret sl
  | o :: l, sl => match gdOf ops sl o.guard with
    | .yes => (opT P (fun _ => none) o.op (opA sl) L b).bind fun r => r.1.force fun a => evQ P ops L b l (updAo sl o.dst a)
    | .no => evQ P ops L b l (updAo sl o.dst .und)
    | .bad => .fail
    | .ask d want x => joinT x ⟨sl, L, b⟩ (dsts (o :: l))
        (bif want then (opT P (fun _ => none) o.op (opA (updA sl d .tt)) L b).bind fun r => r.1.force fun a => evQ P ops L b l (updAo (updA sl d .tt) o.dst a) else evQ P ops L b l (updAo (updA sl d .tt) o.dst .und))
        (bif want then evQ P ops L b l (updAo (updA sl d .ff) o.dst .und) else (opT P (fun _ => none) o.op (opA (updA sl d .ff)) L b).bind fun r => r.1.force fun a => evQ P ops L b l (updAo (updA sl d .ff) o.dst a))
def evL (P : Program) (tab : Tab) (ops : Array Oper) : List Oper → St → Tree St
  | [], st => .ret st
  | o :: l, ⟨sl, L, b⟩ => match gdOf ops sl o.guard with
    | .yes => (stepT P tab o ⟨sl, L, b⟩).bind fun st' => evL P tab ops l st'
    | .no => evL P tab ops l ⟨updAo sl o.dst .und, L, b⟩
    | .bad => .fail
    | .ask d want x => bif quietL P (o :: l) then (evQ P ops L b (o :: l) sl).bind fun sl => .ret ⟨sl, L, b⟩ else
        .ite x (bif want then (stepT P tab o ⟨updA sl d .tt, L, b⟩).bind fun st' => evL P tab ops l st' else evL P tab ops l ⟨updAo (updA sl d .tt) o.dst .und, L, b⟩)
          (bif want then evL P tab ops l ⟨updAo (updA sl d .ff) o.dst .und, L, b⟩ else (stepT P tab o ⟨updA sl d .ff, L, b⟩).bind fun st' => evL P tab ops l st')
section
variable {P : Program} {ty T U : TypeId} {f : Fr} {w w' : World} {B : Base} {ν ν' : Nms} {b b' : Nat} {Z Z' : Nat → Prop} {L L' L1 L2 : List En} {F : List Ent} {r : Operand → AV} {tab : Tab} {n : Nat} {ops : Array Oper} {Q : Post}
theorem quiet_ok {op : Op} (hq : quietOp P op = true) (H : Here B ν b w L F) (hr : ∀ x, slotR ν b (B.Z (ents ν L ++ F)) w (r x) (ev f x)) {res : MR} (h : (opT P tab op r L b).run = some res) :
    ∃ a, res = (a, L, b) ∧ OpW P op ty f w fun v w' => w' = w ∧ slotR ν b (B.Z (ents ν L ++ F)) w a v := by
  have hn : ∀ x, slotR ν b (B.Z (ents ν L ++ F)) w (normW L (r x)) (ev f x) := fun x => normW_ok H (hr x)
  have key : ∀ {op : Op} {t : Tree AV} {res : MR}, Hyp.Q P op ty f w ν b (B.Z (ents ν L ++ F)) t → (withLB L b t).run = some res → ∃ a, res = (a, L, b) ∧ OpW P op ty f w fun v w' => w' = w ∧ slotR ν b (B.Z (ents ν L ++ F)) w a v := by
    intro op t res hQ h
    obtain ⟨a, h1, h2⟩ := Tree.bind_some h
    cases h2
    exact ⟨a, rfl, hQ a h1⟩
  unfold quietOp at hq
  split at hq
  · cases h; exact ⟨_, rfl, o_move ⟨rfl, hr _⟩⟩
  · cases h; exact ⟨_, rfl, o_assign ⟨rfl, hr _⟩⟩
  · rename_i c x y
    simp only [opT] at h
    split at h
    · rename_i hc
      cases h
      have := hr c
      rw [hc] at this
      exact ⟨_, rfl, o_pick (sl_tt this) ⟨rfl, hr x⟩⟩
    · rename_i hc
      cases h
      have := hr c
      rw [hc] at this
      exact ⟨_, rfl, o_pick (sl_ff this) ⟨rfl, hr y⟩⟩
    · rename_i d hc
      cases h
      have := hr c
      rw [hc] at this
      refine ⟨_, rfl, o_pick (sl_bool this) ⟨rfl, mergeAV_ok (fun h => ?_) (fun h => ?_)⟩⟩
      · subst h; exact hr x
      · subst h; exact hr y
    · cases h
  · exact key (nilCheckT_ok (hr _)) h
  · exact key (loadT_ok H (hr _)) h
  · exact key (unT_ok (hr _)) h
  · exact key (fieldAddrT_ok (hr _)) h
  · exact key (extractT_ok (hr _)) h
  · exact key (fieldT_ok (hr _)) h
  · exact key (lookupT_ok H (hr _) (hr _)) h
  · rename_i o t x y u
    simp only [opT] at h
    have hn : isNilSl y = false := by simpa using hq
    rw [hn] at h
    exact key (bin2T_ok (hr _) (hr _)) h
  · rename_i s t x
    simp only [opT] at h
    have hn : isStrSl P s t = false := by simpa using hq
    rw [hn] at h
    cases hc : isSlStr P s t <;> rw [hc] at h
    · exact key (intT_ok (hr _)) h
    · exact key (bytesStrT_ok H (hr _)) h
  · rename_i args ts
    simp only [opT] at h
    split at h
    · rename_i x t h1 h2
      rw [listArr h1, listArr h2]
      cases hm : isMpv (r x) <;> rw [hm] at h
      · exact key (lenT_ok (hn _)) h
      · exact key (mapLenT_ok H (hr _)) h
    · cases h
  · cases hq
theorem opT_quiet {op : Op} (hq : quietOp P op = true) {res : MR} (h : (opT P tab op r L b).run = some res) : (opT P (fun _ => none) op r L b).run = some res := by
  unfold quietOp at hq
  split at hq <;> first | exact h | cases hq
theorem quiet_det {op : Op} (hq : quietOp P op = true) : (opT P tab op r L b).Det := by
  unfold quietOp at hq
  split at hq
  · exact trivial
  · exact trivial
  · simp only [opT]
    split <;> trivial
  · exact d_lb d_nilCheck
  · exact d_lb d_load
  · exact d_lb d_un
  · exact d_lb d_fieldAddr
  · exact d_lb d_extract
  · exact d_lb d_fieldT
  · exact d_lb d_lookup
  · rename_i o t x y u
    simp only [opT]
    have hn : isNilSl y = false := by simpa using hq
    rw [hn, cond_false]
    exact d_lb d_bin2
  · rename_i s t x
    simp only [opT]
    have hn : isStrSl P s t = false := by simpa using hq
    rw [hn, cond_false]
    exact d_bif (d_lb d_bytesStr) (d_lb d_int)
  · simp only [opT]
    split
    · exact d_bif (d_lb d_mapLen) (d_lb d_len)
    · exact d_fail
  · cases hq
theorem opF_quiet {op : Op} (hq : quietOp P op = true) : opF P tab op r L b = opT P tab op r L b := by
  have : frzKeysT tab r L op = [] := by
    unfold quietOp at hq
    split at hq <;> first | rfl | cases hq
  unfold opF
  rw [this]
theorem d_joinSl {x : Bool} {s1 s2 : Nat → AV} {ds : List Nat} {sl : Nat → AV} : (joinSl x s1 s2 ds sl).Det := by rw [joinSl_eq]; trivial
theorem d_joinT {x : Bool} {st : St} {ds : List Nat} {t1 t2 : Tree (Nat → AV)} (h : t1.Det) (g : t2.Det) : (joinT x st ds t1 t2).Det := by
  unfold joinT
  split
  · exact d_joinSl
  · exact ⟨h, g⟩
theorem evQ_det : ∀ (l : List Oper) (sl : Nat → AV), quietL P l = true → (evQ P ops L b l sl).Det
  | [], _, _ => trivial
  | o :: l, sl, hq => by
    simp only [quietL, Bool.and_eq_true] at hq
    have yes : ∀ sl : Nat → AV, ((opT P (fun _ => none) o.op (opA sl) L b).bind fun r => r.1.force fun a => evQ P ops L b l (updAo sl o.dst a)).Det := fun sl => (quiet_det hq.1).bind fun r => by rw [AV.force_eq]; exact evQ_det l _ hq.2
    unfold evQ
    split
    · exact yes _
    · exact evQ_det l _ hq.2
    · trivial
    · exact d_joinT (d_bif (yes _) (evQ_det l _ hq.2)) (d_bif (evQ_det l _ hq.2) (yes _))
theorem L_unwanted {o : Oper} {l : List Oper} (hw : ∀ a, Good n f a → Region.wanted o (yielded ops a.tmps) = false) (h : Hyp.L P n ops Q l (updo f o.dst undef) w) : Hyp.L P n ops Q (o :: l) f w := by
  intro hb a ha
  simp only [wpList, hw a ha, if_false, Bool.false_eq_true]
  have hput := ha.put o.dst (bnd_cons hb).1 undef
  have := h (bnd_cons hb).2 _ hput
  cases hd : o.dst with
  | none => rw [hd] at this; exact this
  | some d => rw [hd] at this; exact this
theorem gd_yes {o : Oper} {sl : Nat → AV} (hs : ∀ t, slotR ν b Z w (sl t) (f t)) (h : gdOf ops sl o.guard = .yes) : ∀ a, Good n f a → Region.wanted o (yielded ops a.tmps) = true := by
  intro a ha
  unfold gdOf at h
  split at h
  · rename_i hg; simp [Region.wanted, hg]
  · rename_i j want hg
    split at h
    · cases h
    · rename_i d hd
      split at h
      · rename_i hv
        have hv' := hs d
        rw [hv] at hv'
        have := yields ha hd (sl_tt hv')
        cases want <;> simp at h
        simp [Region.wanted, hg, this]
      · rename_i hv
        have hv' := hs d
        rw [hv] at hv'
        have := yields ha hd (sl_ff hv')
        cases want <;> simp at h
        simp [Region.wanted, hg, this]
      · cases h
      · cases h
      · cases h
theorem gd_no {o : Oper} {sl : Nat → AV} (hs : ∀ t, slotR ν b Z w (sl t) (f t)) (h : gdOf ops sl o.guard = .no) : ∀ a, Good n f a → Region.wanted o (yielded ops a.tmps) = false := by
  intro a ha
  unfold gdOf at h
  split at h
  · cases h
  · rename_i j want hg
    split at h
    · cases h
    · rename_i d hd
      split at h
      · rename_i hv
        have hv' := hs d
        rw [hv] at hv'
        have := yields ha hd (sl_tt hv')
        cases want <;> simp at h
        simp [Region.wanted, hg, this]
      · rename_i hv
        have hv' := hs d
        rw [hv] at hv'
        have := yields ha hd (sl_ff hv')
        cases want <;> simp at h
        simp [Region.wanted, hg, this]
      · rename_i hv
        have hv' := hs d
        rw [hv] at hv'
        have := yieldsG ha hd (y := none) hv'
        simp [Region.wanted, hg, this]
      · cases h
      · cases h
theorem gd_ask {o : Oper} {sl : Nat → AV} {d : Nat} {want x : Bool} (hs : ∀ t, slotR ν b Z w (sl t) (f t)) (h : gdOf ops sl o.guard = .ask d want x) : f d = .bool x ∧ ∀ a, Good n f a → Region.wanted o (yielded ops a.tmps) = (x == want) := by
  unfold gdOf at h
  split at h
  · cases h
  · rename_i j want' hg
    split at h
    · cases h
    · rename_i d' hd
      split at h
      · cases want' <;> cases h
      · cases want' <;> cases h
      · cases h
      · rename_i x' hv
        cases h
        have hv' := hs d
        rw [hv] at hv'
        have hb := sl_bool hv'
        refine ⟨hb, fun a ha => ?_⟩
        have := yields ha hd hb
        simp [Region.wanted, hg, this]
      · cases h
theorem sl_upd {sl : Nat → AV} {d : Nat} {a : AV} {v : Value} (hs : ∀ t, slotR ν b Z w (sl t) (f t)) (h : slotR ν b Z w a v) : ∀ t, slotR ν b Z w (updA sl d a t) (upd f d v t) := by
  intro t
  unfold updA upd
  cases Nat.beq t d
  · exact hs t
  · exact h
theorem sl_updo {sl : Nat → AV} {d : Option Nat} {a : AV} {v : Value} (hs : ∀ t, slotR ν b Z w (sl t) (f t)) (h : slotR ν b Z w a v) : ∀ t, slotR ν b Z w (updAo sl d a t) (updo f d v t) := by
  cases d with
  | none => exact hs
  | some d => exact sl_upd hs h
/-- A slot is told anew. -/
theorem sl_tell {sl : Nat → AV} {d : Nat} {a : AV} (hs : ∀ t, slotR ν b Z w (sl t) (f t)) (h : slotR ν b Z w a (f d)) : ∀ t, slotR ν b Z w (updA sl d a t) (f t) := by
  intro t
  unfold updA
  cases hc : Nat.beq t d
  · exact hs t
  · rw [Nat.eq_of_beq_eq_true hc]; exact h
theorem opA_ok {sl : Nat → AV} (hs : ∀ t, slotR ν b Z w (sl t) (f t)) : ∀ x, slotR ν b Z w (opA sl x) (ev f x) := by
  intro x
  cases x with
  | tmp t => exact hs t
  | const v => exact constAV_ok v
  | global g => trivial
  | func g => exact .of (show avV ν b Z w (.clo g .un) (.func (.func g) #[] #[]) from ⟨[], rfl, rfl⟩)
theorem dsts_cons {o : Oper} {l : List Oper} {t : Nat} (h : memN (dsts (o :: l)) t = false) : (∀ v, updo f o.dst v t = f t) ∧ memN (dsts l) t = false := by
  unfold dsts at h
  split at h
  · rename_i d hd
    simp only [memN, Bool.or_eq_false_iff] at h
    refine ⟨fun v => ?_, h.2⟩
    rw [hd]
    show upd f d v t = f t
    refine upd_ne _ _ ?_
    rintro rfl
    simp at h
  · rename_i hd
    exact ⟨fun v => by rw [hd]; rfl, h⟩
theorem joinT_run {x : Bool} {st : St} {ds : List Nat} {t1 t2 : Tree (Nat → AV)} {sl' : Nat → AV} (h : (joinT x st ds t1 t2).run = some sl') :
    ∃ s, (bif x then t1 else t2).run = some s ∧ (sl' = s ∨ ∃ s1 s2, (bif x then s1 else s2) = s ∧ sl' = fun t => bif memN ds t then mergeAV x (s1 t) (s2 t) else st.sl t) := by
  unfold joinT at h
  split at h
  · rename_i s1 s2
    rw [joinSl_eq] at h
    cases h
    refine ⟨bif x then s1 else s2, by cases x <;> rfl, .inr ⟨s1, s2, rfl, rfl⟩⟩
  · refine ⟨sl', ?_, .inl rfl⟩
    cases x <;> exact h
theorem evQ_ok (H : Here B ν b w L F) : ∀ (l : List Oper) (sl sl' : Nat → AV) (f : Fr), quietL P l = true → (evQ P ops L b l sl).run = some sl' → (∀ t, slotR ν b (B.Z (ents ν L ++ F)) w (sl t) (f t)) →
    (∀ f', (∀ t, slotR ν b (B.Z (ents ν L ++ F)) w (sl' t) (f' t)) → (∀ t, memN (dsts l) t = false → f' t = f t) → Q .normal f' w) → Hyp.L P n ops Q l f w
  | [], sl, sl', f, _, h, hs, hk => by
    cases h
    exact L_nil (hk f hs fun _ _ => rfl)
  | o :: l, sl, sl', f, hq, h, hs, hk => by
    simp only [quietL, Bool.and_eq_true] at hq
    -- done, or not
    have yes : ∀ (sl sl' : Nat → AV), ((opT P (fun _ => none) o.op (opA sl) L b).bind fun r => r.1.force fun a => evQ P ops L b l (updAo sl o.dst a)).run = some sl' → (∀ t, slotR ν b (B.Z (ents ν L ++ F)) w (sl t) (f t)) →
        (∀ a, Good n f a → Region.wanted o (yielded ops a.tmps) = true) →
        (∀ f', (∀ t, slotR ν b (B.Z (ents ν L ++ F)) w (sl' t) (f' t)) → (∀ t, memN (dsts (o :: l)) t = false → f' t = f t) → Q .normal f' w) → Hyp.L P n ops Q (o :: l) f w := by
      intro sl sl' h hs hw hk
      obtain ⟨res, h1, h2⟩ := Tree.bind_some h
      rw [AV.force_eq] at h2
      obtain ⟨a, rfl, hop⟩ := quiet_ok (ty := o.type) hq.1 H (opA_ok hs) h1
      refine L_wanted hw (hop.mono ?_)
      rintro v w' ⟨hww, hv⟩
      rw [hww]
      refine evQ_ok H l _ sl' _ hq.2 h2 (sl_updo hs hv) fun f' g1 g2 => hk f' g1 fun t ht => ?_
      obtain ⟨q1, q2⟩ := dsts_cons (f := f) ht
      rw [g2 t q2, q1]
    have no : ∀ (sl sl' : Nat → AV), (evQ P ops L b l (updAo sl o.dst .und)).run = some sl' → (∀ t, slotR ν b (B.Z (ents ν L ++ F)) w (sl t) (f t)) →
        (∀ a, Good n f a → Region.wanted o (yielded ops a.tmps) = false) →
        (∀ f', (∀ t, slotR ν b (B.Z (ents ν L ++ F)) w (sl' t) (f' t)) → (∀ t, memN (dsts (o :: l)) t = false → f' t = f t) → Q .normal f' w) → Hyp.L P n ops Q (o :: l) f w := by
      intro sl sl' h hs hw hk
      refine L_unwanted hw ?_
      refine evQ_ok H l _ sl' _ hq.2 h (sl_updo hs rfl) fun f' g1 g2 => hk f' g1 fun t ht => ?_
      obtain ⟨q1, q2⟩ := dsts_cons (f := f) ht
      rw [g2 t q2, q1]
    unfold evQ at h
    split at h
    · rename_i hg
      exact yes sl sl' h hs (gd_yes hs hg) hk
    · rename_i hg
      exact no sl sl' h hs (gd_no hs hg) hk
    · cases h
    · rename_i d want x hg
      obtain ⟨hd, hw⟩ := gd_ask (n := n) hs hg
      obtain ⟨s, h1, h2⟩ := joinT_run h
      have fin : ∀ f', (∀ t, slotR ν b (B.Z (ents ν L ++ F)) w (s t) (f' t)) → (∀ t, memN (dsts (o :: l)) t = false → f' t = f t) → Q .normal f' w := by
        intro f' g1 g2
        refine hk f' ?_ g2
        rcases h2 with rfl | ⟨s1, s2, hs12, rfl⟩
        · exact g1
        · intro t
          cases hm : memN (dsts (o :: l)) t
          · simp only [hm, cond_false]
            rw [g2 t hm]
            exact hs t
          · simp only [hm, cond_true]
            refine mergeAV_ok (fun hx => ?_) (fun hx => ?_)
            · subst hx; have := g1 t; rw [← hs12] at this; exact this
            · subst hx; have := g1 t; rw [← hs12] at this; exact this
      cases x
      · have hs2 := sl_tell (a := .ff) hs (d := d) (by rw [hd]; exact rfl)
        cases want
        · exact yes _ s h1 hs2 (fun a ha => by rw [hw a ha]; rfl) fin
        · exact no _ s h1 hs2 (fun a ha => by rw [hw a ha]; rfl) fin
      · have hs2 := sl_tell (a := .tt) hs (d := d) (by rw [hd]; exact rfl)
        cases want
        · exact no _ s h1 hs2 (fun a ha => by rw [hw a ha]; rfl) fin
        · exact yes _ s h1 hs2 (fun a ha => by rw [hw a ha]; rfl) fin
theorem stepT_runs {o : Oper} {st : St} {R : St → Prop} {ν : Nms} (H : Here B ν st.b w st.L F) (hs : ∀ t, slotR ν st.b (B.Z (ents ν st.L ++ F)) w (st.sl t) (f t)) (h : (stepT P tab o st).Runs R) :
    (opF P tab o.op (opA st.sl) st.L st.b).Runs fun r => R ⟨updAo st.sl o.dst r.1, r.2.1, r.2.2⟩ := by
  obtain ⟨sl, L, b⟩ := st
  simp only [stepT, Tree.runs_bind] at h
  cases hq : quietOp P o.op
  · refine h.mono fun r hr => ?_
    unfold forceMR at hr
    rw [AV.force_eq, hq, cond_false, forceL_eq, forceN_eq] at hr
    exact hr
  · rw [opF_quiet hq] at h ⊢
    obtain ⟨res, h1, h2⟩ := (quiet_det hq).runs h
    obtain ⟨a, rfl, _⟩ := quiet_ok (ty := o.type) hq H (opA_ok hs) (opT_quiet hq h1)
    unfold forceMR at h2
    rw [AV.force_eq, hq, cond_true] at h2
    exact (Tree.runs_run h1).2 h2
theorem evL_ok {ν0 : Nms} {b0 : Nat} {w0 : World} {L0 : List En} (ht : TabOK P tab) : ∀ (l : List Oper) (st : St) (f : Fr) (w : World),
    (evL P tab ops l st).Runs (fun st' => ∀ f' w', SRel B ν0 b0 w0 L0 F st' f' w' → (∀ t, memN (dsts l) t = false → f' t = f t) → Q .normal f' w') → SRel B ν0 b0 w0 L0 F st f w → Hyp.L P n ops Q l f w
  | [], st, f, w, h, hs => L_nil (h f w hs fun _ _ => rfl)
  | o :: l, st, f, w, h, hs => by
    have yes : ∀ (st : St), ((stepT P tab o st).bind fun st' => evL P tab ops l st').Runs (fun st' => ∀ f' w', SRel B ν0 b0 w0 L0 F st' f' w' → (∀ t, memN (dsts (o :: l)) t = false → f' t = f t) → Q .normal f' w') → SRel B ν0 b0 w0 L0 F st f w →
        (∀ a, Good n f a → Region.wanted o (yielded ops a.tmps) = true) → Hyp.L P n ops Q (o :: l) f w := by
      intro st h hs hw
      rw [Tree.runs_bind] at h
      obtain ⟨ν, hl, hsl⟩ := hs
      have H := hl.here
      refine L_wanted hw ((opF_ok' (ty := o.type) ht H (opA_ok hsl) _ (stepT_runs H hsl h)).mono ?_)
      rintro v w' ⟨r, hr, ν', hl', hv⟩
      refine evL_ok ht l _ _ w' (hr.mono fun st' hk f' w2 g1 g2 => hk f' w2 g1 fun t ht => ?_) ⟨ν', hl.trans hl', sl_updo (fun t => H.z hl' (hsl t)) hv⟩
      obtain ⟨q1, q2⟩ := dsts_cons (f := f) ht
      rw [g2 t q2, q1]
    have no : ∀ (st : St), (evL P tab ops l ⟨updAo st.sl o.dst .und, st.L, st.b⟩).Runs (fun st' => ∀ f' w', SRel B ν0 b0 w0 L0 F st' f' w' → (∀ t, memN (dsts (o :: l)) t = false → f' t = f t) → Q .normal f' w') → SRel B ν0 b0 w0 L0 F st f w →
        (∀ a, Good n f a → Region.wanted o (yielded ops a.tmps) = false) → Hyp.L P n ops Q (o :: l) f w := by
      intro st h hs hw
      obtain ⟨ν, hl, hsl⟩ := hs
      refine L_unwanted hw ?_
      refine evL_ok ht l _ _ w (h.mono fun st' hk f' w2 g1 g2 => hk f' w2 g1 fun t ht => ?_) ⟨ν, hl, sl_updo hsl rfl⟩
      obtain ⟨q1, q2⟩ := dsts_cons (f := f) ht
      rw [g2 t q2, q1]
    obtain ⟨sl, L, b⟩ := st
    obtain ⟨ν, hl, hsl⟩ := hs
    unfold evL at h
    split at h
    · rename_i hg
      exact yes ⟨sl, L, b⟩ h ⟨ν, hl, hsl⟩ (gd_yes hsl hg)
    · rename_i hg
      exact no ⟨sl, L, b⟩ h ⟨ν, hl, hsl⟩ (gd_no hsl hg)
    · exact h.elim
    · rename_i d want x hg
      obtain ⟨hd, hw⟩ := gd_ask (n := n) hsl hg
      cases hq : quietL P (o :: l) <;> rw [hq] at h
      · simp only [cond_false] at h
        cases x
        · have h := h.2 rfl
          have hs2 : SRel B ν0 b0 w0 L0 F ⟨updA sl d .ff, L, b⟩ f w := ⟨ν, hl, sl_tell (a := .ff) hsl (d := d) (by rw [hd]; exact rfl)⟩
          cases want
          · exact yes ⟨updA sl d .ff, L, b⟩ h hs2 (fun a ha => by rw [hw a ha]; rfl)
          · exact no ⟨updA sl d .ff, L, b⟩ h hs2 (fun a ha => by rw [hw a ha]; rfl)
        · have h := h.1 rfl
          have hs2 : SRel B ν0 b0 w0 L0 F ⟨updA sl d .tt, L, b⟩ f w := ⟨ν, hl, sl_tell (a := .tt) hsl (d := d) (by rw [hd]; exact rfl)⟩
          cases want
          · exact no ⟨updA sl d .tt, L, b⟩ h hs2 (fun a ha => by rw [hw a ha]; rfl)
          · exact yes ⟨updA sl d .tt, L, b⟩ h hs2 (fun a ha => by rw [hw a ha]; rfl)
      · simp only [cond_true, Tree.runs_bind] at h
        obtain ⟨sl', h1, h2⟩ := (evQ_det _ _ hq).runs h
        exact evQ_ok hl.here (o :: l) sl sl' f hq h1 hsl fun f' g1 g2 => h2 f' w ⟨ν, hl, g1⟩ g2
end
end Hyp
