/- Structs compared; slices against nil; fields of values; the least and the greatest; text as bytes; function values; rows given up ahead of an operation. -/
import Derived.Test.YtdlbmjbbnplpjaaOf
import Derived.Laws.IdiomStrings
set_option linter.unusedVariables false
set_option linter.unusedSimpArgs false
namespace Hyp
open Go
def eqT (P : Program) (T : TypeId) (op : BinOp) (x y : AV) : Tree AV := match tyOf P deep T with
  | some t => bif t.isAgg && (cmpTy P deep T t && !(P.eqGuardType P.depth T)) then (match asD t x, asD t y with
    | some a, some c => (match op with
      | .eql => .ret (.val .bool (eqV t a c))
      | .neq => .ret (.val .bool (!(eqV t a c)))
      | _ => .fail)
    | _, _ => .fail) else .fail
  | none => .fail
def isBoolT (P : Program) (T : TypeId) : Bool := match P.underlying T with | some .bool => true | _ => false
def boolT (op : BinOp) (x y : AV) : Tree AV := match x.bool?, y.bool? with
  | some a, some c => (match op with
    | .eql => .ret (.val .bool (a == c))
    | .neq => .ret (.val .bool (!(a == c)))
    | _ => .fail)
  | _, _ => .fail
def bin2T (P : Program) (T : TypeId) (op : BinOp) (c : Bool) (x y : AV) : Tree AV := bif x.isAgg then eqT P T op x y else bif isBoolT P T then boolT op x y else binT P T op c x y
def isStrV : AV → Bool
  | .val _ _ => true
  | _ => false
/-- A slice against nil: an empty one may be so, or not. -/
def nilSlT (P : Program) (T : TypeId) (op : BinOp) (x : AV) : Tree AV := bif isSlT P T && !(isStrV x) then (match op with
    | .eql => (match x with
      | .snil _ => .ret .tt
      | x => match lenA x with
        | some n => .ite (decide (n = 0)) (.all (fun _ : Bool => True) fun c => .ret (.val .bool c)) (.ret .ff)
        | none => .fail)
    | .neq => (match x with
      | .snil _ => .ret .ff
      | x => match lenA x with
        | some n => .ite (decide (n = 0)) (.all (fun _ : Bool => True) fun c => .ret (.val .bool (!c))) (.ret .tt)
        | none => .fail)
    | _ => .fail) else .fail
def isNilSl : Operand → Bool
  | .const (.slice none 0 0) => true
  | _ => false
def fieldT (P : Program) (T : TypeId) (x : AV) (i : Nat) : Tree AV := match P.underlying T with
  | some (.struct fs) => match fs[i]? with
    | some fd => match x with
      | .agg a => partT P fd.type a fd.offset
      | .val (.rcd t) d => partT P fd.type (flds t d) fd.offset
      | _ => .fail
    | none => .fail
  | _ => .fail
def minmaxT (mx : Bool) (x y : AV) : Tree AV := match x, y with
  | .val (.sint k) a, .val (.sint k') d => bif decide (k = k') then .ret (.val (.sint k) (bif mx then maxI a d else minI a d)) else .fail
  | _, _ => .fail
def bytesI (s : List UInt8) : Option (List UInt8) := if s.length ≤ 9223372036854775807 then some s else none
def strBytesT (P : Program) (S T : TypeId) (x : AV) (L : List En) (b : Nat) : Tree MR := match x with
  | .val .str s => match P.underlying S, P.underlying T with
    | some .string, some (.slice e) => match P.underlying e with
      | some (.int .u8) => .get (bytesI s) fun xs => .ret (.whole b 1, ⟨b, b, .row .u8 xs⟩ :: L, b + 1)
      | _ => .fail
    | _, _ => .fail
  | _ => .fail
def capsA : List AV → Option AV
  | [] => some .un
  | a :: l => bif a.okC && (!a.isAgg && Nat.beq a.csz 1) then (capsA l).map fun r => .pr a r else none
def capsL : AV → Option (List AV)
  | .un => some []
  | .pr a c => bif a.okC && (!a.isAgg && Nat.beq a.csz 1) then (capsL c).map fun l => a :: l else none
  | _ => none
def makeFuncT (fn : Fn) (first : List Operand) (caps : List AV) : Tree AV := match fn, first with
  | .func g, [] => match capsA caps with
    | some a => .ret (.clo g a)
    | none => .fail
  | _, _ => .fail
section
variable {P : Program} {ty T U S : TypeId} {f : Fr} {w w' : World} {B : Base} {ν ν' : Nms} {b b' : Nat} {Z : Nat → Prop} {L L' : List En} {F : List Ent} {x y z k : Operand} {p q r a : AV} {kt vt t : Ty} {v u : Value} {op : BinOp}
theorem d_eqT : (eqT P T op p q).Det := by
  unfold eqT
  repeat' first | exact d_ret _ | exact d_fail | refine d_bif ?_ ?_ | split
theorem d_bin2 {c : Bool} : (bin2T P T op c p q).Det := by
  refine d_bif d_eqT (d_bif ?_ d_bin)
  unfold boolT
  repeat' first | exact d_ret _ | exact d_fail | split
theorem d_fieldT {i : Nat} : (fieldT P T p i).Det := by
  unfold fieldT
  repeat' first | exact d_ret _ | exact d_fail | exact d_part | refine d_bif ?_ ?_ | split
theorem d_minmax {m : Bool} : (minmaxT m p q).Det := by
  unfold minmaxT
  repeat' first | exact d_ret _ | exact d_fail | refine d_bif ?_ ?_ | split
theorem d_strBytes : (strBytesT P S T p L b).Det := by
  unfold strBytesT
  repeat' first | exact d_ret _ | exact d_fail | refine d_get fun _ => ?_ | refine d_bif ?_ ?_ | split
theorem d_makeFunc {fn : Fn} {l : List Operand} {c : List AV} : (makeFuncT fn l c).Det := by
  unfold makeFuncT
  repeat' first | exact d_ret _ | exact d_fail | split
theorem d_lookup {ok : Bool} : (lookupT P T p q ok L).Det := by
  unfold lookupT
  repeat' first | exact d_ret _ | exact d_fail | split
theorem d_mapUpd : (mapUpdT P T p q r L b).Det := by
  unfold mapUpdT
  repeat' first | exact d_ret _ | exact d_fail | split
theorem d_mapDel : (mapDelT P T p q L b).Det := by
  unfold mapDelT
  repeat' first | exact d_ret _ | exact d_fail | split
theorem d_makeMap : (makeMapT P T L b).Det := by
  unfold makeMapT
  repeat' first | exact d_ret _ | exact d_fail | split
theorem d_mapLen : (mapLenT P T p L).Det := by
  unfold mapLenT
  repeat' first | exact d_ret _ | exact d_fail | split
theorem d_range : (rangeT P T p L b).Det := by
  unfold rangeT
  repeat' first | exact d_ret _ | exact d_fail | split
theorem d_entry : (entryT p L).Det := by
  unfold entryT
  repeat' first | exact d_ret _ | exact d_fail | refine d_bif ?_ ?_ | split
theorem eqT_ok (hx : slotR ν b Z w p (ev f x)) (hy : slotR ν b Z w q (ev f y)) : Q P (.binOp op T x y U) ty f w ν b Z (eqT P T op p q) := by
  refine Q.of fun a ha => ?_
  unfold eqT at ha
  split at ha
  · rename_i t ht
    cases hc : (t.isAgg && (cmpTy P deep T t && !(P.eqGuardType P.depth T))) <;> rw [hc] at ha
    · cases ha
    · simp only [cond_true] at ha
      simp only [Bool.and_eq_true, Bool.not_eq_true'] at hc
      obtain ⟨h1, h2, h3⟩ := hc
      split at ha
      · rename_i d e hd he
        have r1 := asD_ok hd hx
        have r2 := asD_ok he hy
        obtain ⟨cs, hv, _⟩ := rv_agg h1 r1
        obtain ⟨ds, hu, _⟩ := rv_agg h1 r2
        have heq := (equalIn_ok (P := P) (Z := Z) (w := w) deep).1 T t d e (ev f x) (ev f y) 10000 h2 (by decide) r1 r2
        split at ha
        · cases ha
          refine ⟨_, bin_run hv hu (run_eqGuard_agg w _ _ _ _ _ _ h3) ?_, sl_mk rfl rfl⟩
          rw [hv, hu] at heq
          rw [run_eql_struct, heq]
          rfl
        · cases ha
          refine ⟨_, bin_run hv hu (run_eqGuard_agg w _ _ _ _ _ _ h3) ?_, sl_mk rfl rfl⟩
          rw [hv, hu] at heq
          rw [run_neq_struct, heq]
          rfl
        · cases ha
      · cases ha
  · cases ha
theorem boolT_ok (hb : isBoolT P T = true) (hx : slotR ν b Z w p (ev f x)) (hy : slotR ν b Z w q (ev f y)) : Q P (.binOp op T x y U) ty f w ν b Z (boolT op p q) := by
  have hT : P.underlying T = some .bool := by
    unfold isBoolT at hb
    split at hb
    · assumption
    · cases hb
  refine Q.of fun a ha => ?_
  unfold boolT at ha
  split at ha
  · rename_i d e hd he
    have h1 := bool_ok hx hd
    have h2 := bool_ok hy he
    have hg : (eqGuard op T x y (.bool d) (.bool e)).run P w = .ok () w := by unfold eqGuard; cases op <;> rfl
    split at ha
    · cases ha
      refine ⟨.bool (d == e), bin_run h1 h2 hg ?_, sl_mk rfl rfl⟩
      simp only [binOp]
      have := run_equalIn_bool (P := P) w 9999 T d e hT
      simp [Op.equal, Op.maxDepth, this]
    · cases ha
      refine ⟨.bool (!(d == e)), bin_run h1 h2 hg ?_, sl_mk rfl rfl⟩
      simp only [binOp]
      have := run_equalIn_bool (P := P) w 9999 T d e hT
      simp [Op.equal, Op.maxDepth, this]
    · cases ha
  · cases ha
theorem bin2T_ok {c : Bool} (hx : slotR ν b Z w p (ev f x)) (hy : slotR ν b Z w q (ev f y)) : Q P (.binOp op T x y U) ty f w ν b Z (bin2T P T op c p q) := by
  unfold bin2T
  cases p.isAgg
  · cases hb : isBoolT P T
    · exact binT_ok hx hy
    · exact boolT_ok hb hx hy
  · exact eqT_ok hx hy
theorem eqg_sl {c d : Value} {n m n' m' : Nat} {a a' : Option Addr} : (eqGuard op T x y (.slice a n m) (.slice a' n' m')).run P w = .ok () w := by
  unfold eqGuard
  cases op <;> rfl
theorem eq_nilSl {e : TypeId} {a : Option Addr} {n m : Nat} (hT : P.underlying T = some (.slice e)) : (Op.equal T (.slice a n m) (.slice none 0 0)).run P w = .ok a.isNone w := by
  show (Op.equalIn (9999 + 1) T _ _).run P w = _
  unfold Op.equalIn
  cases a <;> simp [run_underlying hT]
theorem nilSlT_ok (H : Here B ν b w L F) (hx : slotR ν b (B.Z (ents ν L ++ F)) w p (ev f x)) (hy : isNilSl y = true) : M' P (.binOp op T x y U) ty f B ν b w L F ((nilSlT P T op p).bind fun a => .ret (a, L, b)) := by
  intro R hr
  rw [Tree.runs_bind] at hr
  have hyv : ev f y = .slice none 0 0 := by
    unfold isNilSl at hy
    split at hy
    · rfl
    · cases hy
  unfold nilSlT at hr
  cases hc : (isSlT P T && !(isStrV p)) <;> rw [hc] at hr
  · exact hr.elim
  · simp only [cond_true] at hr
    simp only [Bool.and_eq_true, Bool.not_eq_true'] at hc
    obtain ⟨e, hT⟩ := isSl_ok hc.1
    -- the slice against nil
    have one : ∀ {n : Int}, lenA p = some n → ∃ ad m c, ev f x = .slice ad m c ∧ (n ≠ 0 → ad.isNone = false) := by
      intro n hn
      rcases lenA_ok hx hn with ⟨s, hs, _⟩ | ⟨m, hm, his⟩
      · rw [hs] at hc; cases hc.2
      · obtain ⟨ad, c, h1, h2, h3, h4⟩ := his
        refine ⟨ad, m, c, h1, fun h0 => ?_⟩
        cases ad with
        | some _ => rfl
        | none =>
          have := h4 rfl
          exact absurd (by omega : n = 0) h0
    have run : ∀ {ad : Option Addr} {m c : Nat} {o : BinOp} {res : Bool}, ev f x = .slice ad m c → ((o = .eql ∧ res = ad.isNone) ∨ (o = .neq ∧ res = !ad.isNone)) →
        (execOp (ev f) (bare (.binOp o T x y U) ty)).run P w = .ok (.value (.bool res)) w := by
      intro ad m c o res h1 h2
      refine bin_run h1 hyv (by unfold eqGuard; cases o <;> rfl) ?_
      rcases h2 with ⟨rfl, rfl⟩ | ⟨rfl, rfl⟩
      · simp only [binOp]
        simp [eq_nilSl (w := w) (a := ad) (n := m) (m := c) hT]
      · simp only [binOp]
        simp [eq_nilSl (w := w) (a := ad) (n := m) (m := c) hT]
    split at hr
    · split at hr
      · exact .of_run (run (sl_snil hx) (.inl ⟨rfl, rfl⟩)) ⟨_, hr, ν, H.stay, rfl⟩
      · split at hr
        · rename_i n hn
          obtain ⟨ad, m, c, h1, h2⟩ := one hn
          by_cases h0 : n = 0
          · exact .of_run (run h1 (.inl ⟨rfl, rfl⟩)) ⟨_, hr.1 (by simpa using h0) ad.isNone trivial, ν, H.stay, sl_mk rfl rfl⟩
          · refine .of_run (run h1 (.inl ⟨rfl, rfl⟩)) ⟨_, hr.2 (by simpa using h0), ν, H.stay, ?_⟩
            rw [h2 h0]; exact rfl
        · exact hr.elim
    · split at hr
      · exact .of_run (run (sl_snil hx) (.inr ⟨rfl, rfl⟩)) ⟨_, hr, ν, H.stay, rfl⟩
      · split at hr
        · rename_i n hn
          obtain ⟨ad, m, c, h1, h2⟩ := one hn
          by_cases h0 : n = 0
          · exact .of_run (run h1 (.inr ⟨rfl, rfl⟩)) ⟨_, hr.1 (by simpa using h0) ad.isNone trivial, ν, H.stay, sl_mk rfl rfl⟩
          · refine .of_run (run h1 (.inr ⟨rfl, rfl⟩)) ⟨_, hr.2 (by simpa using h0), ν, H.stay, ?_⟩
            rw [h2 h0]; exact rfl
        · exact hr.elim
    · exact hr.elim
theorem fieldT_ok {i : Nat} (hx : slotR ν b Z w p (ev f x)) : Q P (.field T x i) ty f w ν b Z (fieldT P T p i) := by
  refine Q.of fun a ha => ?_
  unfold fieldT at ha
  split at ha
  · rename_i fs hu
    split at ha
    · rename_i fd hfd
      have main : ∀ {c : AV} {cs : List Value}, ev f x = .agg cs.toArray → avC ν b Z w c cs → (partT P fd.type c fd.offset).run = some a → ∃ v, (execOp (ev f) (bare (.field T x i) ty)).run P w = .ok (.value v) w ∧ slotR ν b Z w a v := by
        intro c cs hv hc ha
        unfold partT at ha
        split at ha
        · rename_i wa s hw hsz
          split at ha
          · rename_i y hy
            cases hwy : (wa == y.isAgg && (wa || Nat.beq s 1)) <;> rw [hwy] at ha
            · cases ha
            · cases ha
              simp only [Bool.and_eq_true, beq_iff_eq, Bool.or_eq_true] at hwy
              obtain ⟨h1, h2, h3⟩ := atOff_ok hc hy
              unfold aggT at hw
              simp only [Option.map_eq_some_iff] at hw hsz
              obtain ⟨d, hd1, hd⟩ := hw
              obtain ⟨inf, hi, hs⟩ := hsz
              have hcell : P.cellsOf fd.type = s := by simp [Program.cellsOf, hi, hs]
              have hl : ((cs.drop fd.offset).take s).length = s := by rw [List.length_take, List.length_drop]; omega
              cases hag : a.isAgg
              · have hwa : wa = false := hwy.1.trans hag
                subst hwa
                have hs1 : s = 1 := by
                  rcases hwy.2 with h | h
                  · cases h
                  · exact Nat.eq_of_beq_eq_true h
                subst hs1
                obtain ⟨v, hv1⟩ := List.length_eq_one_iff.1 hl
                rw [hv1] at h1
                refine ⟨v, ?_, .of ?_⟩
                · have hx0 := getElem?_of_chunk (xs := cs.toArray) hv1
                  have hpart : (part fd.type cs.toArray fd.offset).run P w = .ok v w := by
                    cases d <;> simp_all [part, isAgg, run_underlying hd1, scal]
                  simp only [execOp, bare, hv, Instr.field, Sem.run_bind, run_underlying hu, Result.andThen_ok, hfd, asAgg, Sem.run_pure, hpart]
                · unfold avV
                  rw [if_neg (by simp [hag])]
                  exact h1
              · have hwa : wa = true := hwy.1.trans hag
                subst hwa
                refine ⟨.agg ((cs.drop fd.offset).take s).toArray, ?_, .of ?_⟩
                · have hex : cs.toArray.extract fd.offset (fd.offset + P.cellsOf fd.type) = ((cs.drop fd.offset).take s).toArray := by
                    rw [hcell]
                    apply Array.ext'
                    simp [List.extract]
                  have hpart : (part fd.type cs.toArray fd.offset).run P w = .ok (.agg ((cs.drop fd.offset).take s).toArray) w := by
                    rw [← hex]
                    cases d <;> simp_all [part, isAgg, run_underlying hd1, run_sizeOf w hi, scal]
                  simp only [execOp, bare, hv, Instr.field, Sem.run_bind, run_underlying hu, Result.andThen_ok, hfd, asAgg, Sem.run_pure, hpart]
                · unfold avV
                  rw [if_pos hag]
                  exact ⟨_, rfl, h1⟩
          · cases ha
        · cases ha
      split at ha
      · rename_i c
        obtain ⟨cs, hv, hc⟩ := hx
        exact main (c := c) hv hc ha
      · rename_i t d
        have hx' : rv Z w (.rcd t) d (ev f x) := hx
        obtain ⟨cs, hv, hc⟩ := rv_agg rfl hx'
        exact main hv (flds_ok t hc) ha
      · cases ha
    · cases ha
  · cases ha
theorem minmaxT_ok {mx : Bool} {ts : Array TypeId} (hx : slotR ν b Z w p (ev f x)) (hy : slotR ν b Z w q (ev f y)) : Q P (.call ⟨.builtin (bif mx then .max else .min), #[x, y], ts⟩) ty f w ν b Z (minmaxT mx p q) := by
  refine Q.of fun a ha => ?_
  unfold minmaxT at ha
  split at ha
  · rename_i k d k' e
    cases hk : decide (k = k') <;> rw [hk] at ha
    · cases ha
    · have hk : k = k' := by simpa using hk
      subst hk
      cases ha
      have h1 := sl_sint hx
      have h2 := sl_sint hy
      cases mx
      · refine ⟨.int k (minI d e), ?_, sl_mk rfl rfl⟩
        simp [execOp, bare, resolve, invoke, builtin, Builtin.min_, Builtin.min2, h1, h2, minI]
      · refine ⟨.int k (maxI d e), ?_, sl_mk rfl rfl⟩
        simp [execOp, bare, resolve, invoke, builtin, Builtin.max_, Builtin.max2, h1, h2, maxI]
  · cases ha
end
end Hyp
