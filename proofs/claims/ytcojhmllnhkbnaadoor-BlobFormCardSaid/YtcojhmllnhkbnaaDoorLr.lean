/- label.right, walked by hand: a range over a string. -/
import Derived.Test.YtcojhmllnhkbnaaDoorZD
import Derived.Test.YtcojhmllnhkbnaaDoorChecked
import Derived.Laws.RangeString
set_option linter.unusedVariables false
set_option linter.unusedSimpArgs false
set_option maxRecDepth 100000
namespace Hyp
open Go Go.Proofs
def lower (c : UInt8) : Bool := decide (97 ≤ c.toNat) && decide (c.toNat ≤ 122)
def rightI (s : List UInt8) (e : Int) : Option Bool :=
  if s.all (fun c => decide (c.toNat < 128)) then some (decide (1 ≤ s.length ∧ s.length ≤ 16 ∧ 1 ≤ e ∧ e ≤ 64) && s.all lower) else none
def S_right : Summ := fun avs L b => match avs with
  | [.val .str s, .val (.sint .i64) e] => .get (rightI s e) fun r => .ret (.val .bool r, L, b)
  | _ => .fail
theorem o_rangeStr {P : Program} {T ty : TypeId} {x : Operand} {f : Fr} {w : World} {K : Value → World → Prop} {s : ByteArray} (hu : P.underlying T = some .string) (hx : ev f x = .string s)
    (h : K (.pointer (some ⟨w.heap.size, 0, none⟩)) (w.iter s 0)) : OpW P (.range T x) ty f w K := by
  refine .of_run ?_ h
  have := run_range_string (P := P) w T s hu
  simp [execOp, bare, hx, this]
theorem o_nextStr {P : Program} {ty : TypeId} {x : Operand} {f : Fr} {w : World} {K : Value → World → Prop} {s : ByteArray} {pos : Nat} (hp : pos < s.size) (ha : (s[pos]'hp).toNat < 128) (hx : ev f x = .pointer (some ⟨w.heap.size, 0, none⟩))
    (h : K (.tuple #[.bool true, .int .i64 pos, .int .i32 (s[pos]'hp).toNat]) (w.iter s (pos + 1))) : OpW P (.next x true) ty f (w.iter s pos) K := by
  refine .of_run ?_ h
  have := run_next_ascii (P := P) w s pos ty hp ha
  simp [execOp, bare, hx, this]
theorem o_nextEnd {P : Program} {ty : TypeId} {x : Operand} {f : Fr} {w : World} {K : Value → World → Prop} {s : ByteArray} {pos : Nat} (hp : ¬ pos < s.size) (hx : ev f x = .pointer (some ⟨w.heap.size, 0, none⟩))
    (h : K (.tuple #[.bool false]) (w.iter s pos)) : OpW P (.next x true) ty f (w.iter s pos) K := by
  refine .of_run ?_ h
  have := run_next_end (P := P) w s pos ty hp
  simp [execOp, bare, hx, this]
theorem right_calls (s : List UInt8) (e : Int) (w : World) (r : Bool) (hr : rightI s e = some r) :
    Calls Tryd.prog 109 #[Hyp.str s, .int .i64 e] w (Ret fun v w' => v = .bool r ∧ (w' = w ∨ ∃ pos, w' = w.iter ⟨s.toArray⟩ pos)) := by
  unfold rightI at hr
  split at hr
  rotate_left
  · cases hr
  rename_i hasc
  have hr := Option.some.inj hr
  have hsz : (⟨s.toArray⟩ : ByteArray).size = s.length := by simp [ByteArray.size]
  refine calls_C Tryd.func109 rfl Tryd.ntmps109 rfl ?_
  refine C_seq (C_region rfl ?_)
  refine L_op (o_assignE (v := .bool false) rfl ?_)
  refine L_nil ?_
  refine C_scope (l := 0) rfl ?_
  refine C_seq (C_seq (C_region rfl ?_))
  refine L_op (o_moveE (v := Hyp.str s) rfl ?_)
  refine L_op (o_lenStr (s := ⟨s.toArray⟩) Tryd.underlying9 rfl ?_)
  rw [hsz]
  have no : (decide (1 ≤ s.length ∧ s.length ≤ 16 ∧ 1 ≤ e ∧ e ≤ 64) && s.all lower) = false → Value.bool false = .bool r := fun h => by rw [← hr, h]
  refine L_op (o_lss rfl rfl ?_)
  by_cases h1 : s.length < 1
  · have hc : decide ((s.length : Int) < 1) = true := by simp; omega
    refine L_op (o_moveE (v := .bool true) (congrArg Value.bool hc) ?_)
    refine L_off rfl rfl (L_off rfl rfl (L_off rfl rfl ?_))
    refine L_op (o_pickE (b := true) rfl rfl (L_op (o_moveE (v := .bool true) rfl ?_)))
    refine L_off rfl rfl (L_off rfl rfl ?_)
    refine L_op (o_pickE (b := true) rfl rfl (L_op (o_moveE (v := .bool true) rfl ?_)))
    refine L_off rfl rfl (L_off rfl rfl ?_)
    refine L_op (o_pickE (b := true) rfl rfl (L_nil ?_))
    refine C_cond (b := true) rfl (fun _ => ?_) (fun h => by cases h)
    refine C_seq (C_region rfl (L_op (o_assignE (v := .bool false) rfl (L_nil ?_))))
    refine C_ret ?_
    refine ⟨_, res_one rfl, no ?_, .inl rfl⟩
    have : ¬ (1 ≤ s.length ∧ s.length ≤ 16 ∧ 1 ≤ e ∧ e ≤ 64) := by omega
    simp [this]
  have hc : decide ((s.length : Int) < 1) = false := by simp; omega
  refine L_op (o_moveE (v := .bool false) (congrArg Value.bool hc) ?_)
  refine L_on rfl rfl (o_moveE (v := Hyp.str s) rfl ?_)
  refine L_on rfl rfl (o_lenStr (s := ⟨s.toArray⟩) Tryd.underlying9 rfl ?_)
  rw [hsz]
  refine L_on rfl rfl (o_gtr rfl rfl ?_)
  by_cases h2 : 16 < s.length
  · have hc : decide ((16 : Int) < (s.length : Int)) = true := by simp; omega
    refine L_op (o_pickE (b := false) (v := .bool true) rfl (congrArg Value.bool hc) (L_op (o_moveE (v := .bool true) rfl ?_)))
    refine L_off rfl rfl (L_off rfl rfl ?_)
    refine L_op (o_pickE (b := true) rfl rfl (L_op (o_moveE (v := .bool true) rfl ?_)))
    refine L_off rfl rfl (L_off rfl rfl ?_)
    refine L_op (o_pickE (b := true) rfl rfl (L_nil ?_))
    refine C_cond (b := true) rfl (fun _ => ?_) (fun h => by cases h)
    refine C_seq (C_region rfl (L_op (o_assignE (v := .bool false) rfl (L_nil ?_))))
    refine C_ret ?_
    refine ⟨_, res_one rfl, no ?_, .inl rfl⟩
    have : ¬ (1 ≤ s.length ∧ s.length ≤ 16 ∧ 1 ≤ e ∧ e ≤ 64) := by omega
    simp [this]
  have hc2 : decide ((16 : Int) < (s.length : Int)) = false := by simp; omega
  refine L_op (o_pickE (b := false) (v := .bool false) rfl (congrArg Value.bool hc2) (L_op (o_moveE (v := .bool false) rfl ?_)))
  refine L_on rfl rfl (o_moveE (v := .int .i64 e) rfl ?_)
  refine L_on rfl rfl (o_lss rfl rfl ?_)
  by_cases h3 : e < 1
  · have hc : decide (e < 1) = true := by simp; omega
    refine L_op (o_pickE (b := false) (v := .bool true) rfl (congrArg Value.bool hc) (L_op (o_moveE (v := .bool true) rfl ?_)))
    refine L_off rfl rfl (L_off rfl rfl ?_)
    refine L_op (o_pickE (b := true) rfl rfl (L_nil ?_))
    refine C_cond (b := true) rfl (fun _ => ?_) (fun h => by cases h)
    refine C_seq (C_region rfl (L_op (o_assignE (v := .bool false) rfl (L_nil ?_))))
    refine C_ret ?_
    refine ⟨_, res_one rfl, no ?_, .inl rfl⟩
    have : ¬ (1 ≤ s.length ∧ s.length ≤ 16 ∧ 1 ≤ e ∧ e ≤ 64) := by omega
    simp [this]
  have hc3 : decide (e < 1) = false := by simp; omega
  refine L_op (o_pickE (b := false) (v := .bool false) rfl (congrArg Value.bool hc3) (L_op (o_moveE (v := .bool false) rfl ?_)))
  refine L_on rfl rfl (o_moveE (v := .int .i64 e) rfl ?_)
  refine L_on rfl rfl (o_gtr rfl rfl ?_)
  by_cases h4 : 64 < e
  · have hc : decide (64 < e) = true := by simp; omega
    refine L_op (o_pickE (b := false) (v := .bool true) rfl (congrArg Value.bool hc) (L_nil ?_))
    refine C_cond (b := true) rfl (fun _ => ?_) (fun h => by cases h)
    refine C_seq (C_region rfl (L_op (o_assignE (v := .bool false) rfl (L_nil ?_))))
    refine C_ret ?_
    refine ⟨_, res_one rfl, no ?_, .inl rfl⟩
    have : ¬ (1 ≤ s.length ∧ s.length ≤ 16 ∧ 1 ≤ e ∧ e ≤ 64) := by omega
    simp [this]
  have hc4 : decide (64 < e) = false := by simp; omega
  refine L_op (o_pickE (b := false) (v := .bool false) rfl (congrArg Value.bool hc4) (L_nil ?_))
  refine C_cond (b := false) rfl (fun h => by cases h) (fun _ => C_skip ?_)
  have hrl : s.all lower = r := by
    rw [← hr]
    have : (1 ≤ s.length ∧ s.length ≤ 16 ∧ 1 ≤ e ∧ e ≤ 64) := by omega
    simp [this]
  refine C_seq (C_region rfl (L_op (o_assignE (v := .bool true) rfl (L_nil ?_))))
  refine C_seq (C_label ?_)
  refine C_seq (C_seq (C_region rfl ?_))
  refine L_op (o_moveE (v := Hyp.str s) rfl ?_)
  refine L_op (o_rangeStr (s := ⟨s.toArray⟩) Tryd.underlying9 rfl ?_)
  refine L_nil ?_
  refine C_mono (Q := fun e f w' => e = .normal ∧ f 5 = .bool r ∧ ∃ pos, w' = w.iter ⟨s.toArray⟩ pos) ?_ ?_
  rotate_left
  · rintro e f w' ⟨rfl, hf, pos, rfl⟩
    refine C_seq (C_region rfl ?_)
    refine L_op (o_moveE (v := .bool r) hf ?_)
    refine L_op (o_assignE (v := .bool r) rfl ?_)
    refine L_nil (C_ret ?_)
    exact ⟨_, res_one rfl, rfl, .inr ⟨pos, rfl⟩⟩
  refine C_block ?_
  refine C_loop (J := fun k f w' => ∃ pos, pos ≤ s.length ∧ k = s.length - pos ∧ w' = w.iter ⟨s.toArray⟩ pos ∧ f 25 = .pointer (some ⟨w.heap.size, 0, none⟩) ∧ f 5 = .bool true ∧ (s.take pos).all lower = true) s.length ⟨0, by omega, rfl, rfl, rfl, rfl, rfl⟩ ?_
  rintro k f w' ⟨pos, hpos, rfl, rfl, hf25, hf5, hall⟩
  refine C_seq (C_region rfl ?_)
  by_cases hp : pos < s.length
  · have hp' : pos < (⟨s.toArray⟩ : ByteArray).size := by rw [hsz]; exact hp
    have hx : (⟨s.toArray⟩ : ByteArray)[pos]'hp' = s[pos] := by simp [ByteArray.getElem_eq_getElem_data]
    have hlt : (s[pos]).toNat < 128 := by
      have := List.all_eq_true.1 hasc s[pos] (List.getElem_mem hp)
      exact of_decide_eq_true this
    refine L_op (o_nextStr hp' (by rw [hx]; exact hlt) hf25 ?_)
    rw [hx]
    refine L_op (o_extract rfl rfl ?_)
    refine L_nil ?_
    refine C_seq (C_cond (b := true) rfl (fun _ => C_skip ?_) (fun h => by cases h))
    refine C_block ?_
    refine C_seq (C_region rfl ?_)
    refine L_op (o_extract rfl rfl ?_)
    refine L_op (o_assignE (v := .int .i32 ((s[pos]).toNat : Int)) rfl ?_)
    refine L_nil ?_
    refine C_seq (C_region rfl ?_)
    refine L_op (o_moveE (v := .int .i32 ((s[pos]).toNat : Int)) rfl ?_)
    refine L_op (o_lss rfl rfl ?_)
    have badr : lower s[pos] = false → r = false := fun hl => by
      rw [← hrl, List.all_eq_false]
      exact ⟨s[pos], List.getElem_mem hp, by simp [hl]⟩
    by_cases k1 : (s[pos]).toNat < 97
    · have hc : decide (((s[pos]).toNat : Int) < 97) = true := by simp; omega
      refine L_op (o_moveE (v := .bool true) (congrArg Value.bool hc) ?_)
      refine L_off rfl rfl (L_off rfl rfl ?_)
      refine L_op (o_pickE (b := true) rfl rfl (L_nil ?_))
      refine C_cond (b := true) rfl (fun _ => ?_) (fun h => by cases h)
      refine C_seq (C_region rfl (L_op (o_assignE (v := .bool false) rfl (L_nil ?_))))
      refine C_exit ?_
      refine ⟨rfl, ?_, pos + 1, rfl⟩
      have : r = false := badr (by unfold lower; simp; omega)
      subst this; rfl
    have hc : decide (((s[pos]).toNat : Int) < 97) = false := by simp; omega
    refine L_op (o_moveE (v := .bool false) (congrArg Value.bool hc) ?_)
    refine L_on rfl rfl (o_moveE (v := .int .i32 ((s[pos]).toNat : Int)) rfl ?_)
    refine L_on rfl rfl (o_gtr rfl rfl ?_)
    by_cases k2 : 122 < (s[pos]).toNat
    · have hc : decide (122 < ((s[pos]).toNat : Int)) = true := by simp; omega
      refine L_op (o_pickE (b := false) (v := .bool true) rfl (congrArg Value.bool hc) (L_nil ?_))
      refine C_cond (b := true) rfl (fun _ => ?_) (fun h => by cases h)
      refine C_seq (C_region rfl (L_op (o_assignE (v := .bool false) rfl (L_nil ?_))))
      refine C_exit ?_
      refine ⟨rfl, ?_, pos + 1, rfl⟩
      have : r = false := badr (by unfold lower; simp; omega)
      subst this; rfl
    have hc2 : decide (122 < ((s[pos]).toNat : Int)) = false := by simp; omega
    refine L_op (o_pickE (b := false) (v := .bool false) rfl (congrArg Value.bool hc2) (L_nil ?_))
    refine C_cond (b := false) rfl (fun h => by cases h) (fun _ => C_skip ?_)
    refine ⟨s.length - (pos + 1), by omega, pos + 1, by omega, rfl, rfl, hf25, hf5, ?_⟩
    rw [List.take_succ_eq_append_getElem hp, List.all_append, hall]
    have : lower s[pos] = true := by unfold lower; simp; omega
    simp [this]
  · have hp' : ¬ pos < (⟨s.toArray⟩ : ByteArray).size := by rw [hsz]; exact hp
    refine L_op (o_nextEnd hp' hf25 ?_)
    refine L_op (o_extract rfl rfl ?_)
    refine L_nil ?_
    refine C_seq (C_cond (b := false) rfl (fun h => by cases h) (fun _ => C_exit ?_))
    refine ⟨rfl, ?_, pos, rfl⟩
    have : r = true := by
      rw [← hrl]
      rw [List.take_of_length_le (by omega)] at hall
      exact hall
    subst this
    exact hf5
theorem ok_right : SoundF Tryd.prog 109 S_right := by
  intro avs L b R hr B ν w F vs H hs
  unfold S_right at hr
  split at hr
  · rename_i s e
    match vs, hs with
    | [v, u], ⟨hv, hu, _⟩ =>
      obtain ⟨r, h1, h2⟩ : ∃ r, rightI s e = some r ∧ R (.val .bool r, L, b) := hr
      have e1 : v = Hyp.str s := List.head_eq_of_cons_eq (show [v] = [_] from hv)
      have e2 : u = .int .i64 e := List.head_eq_of_cons_eq (show [u] = [_] from hu)
      subst e1; subst e2
      refine (right_calls s e w r h1).mono fun en w' he => ?_
      cases en with
      | returned x =>
        obtain ⟨rfl, hw⟩ := he
        rcases hw with rfl | ⟨pos, rfl⟩
        · exact ⟨_, h2, ν, H.stay, sl_mk rfl rfl⟩
        · have ho : Own w (footU (ents ν L ++ F)) (w.iter ⟨s.toArray⟩ pos) (ents ν L ++ F) := by
            have := H.own.alloc (.stringIter ⟨s.toArray⟩ pos)
            exact this.sub (List.sublist_cons_self _ _)
          exact ⟨_, h2, ν, ⟨fun _ _ => rfl, Nat.le_refl _, ho, fun e he => (H.fact e he).later ⟨fun _ _ => rfl, Nat.le_refl _, fun x hx hz => TT.now ho hx hz⟩, gnow ho H.glb⟩, sl_mk rfl rfl⟩
      | panicked _ => exact he.elim
      | outgrown => exact he.elim
  · exact hr.elim
theorem ok_rightC : CallOK Tryd.prog 109 S_right := ok_right.callOK Tryd.func109 (by kernel_rfl)
end Hyp
