/- Printed by gen.py (this work's own): Go functions as pure Lean functions, each with the proof that the Go code comes to its answers. -/
import Derived.Test.YtkpbpjmbkhkmnaaXe
import Derived.Test.YtkpbpjmbkhkmnaaXi
import Derived.Test.YtkpbpjmbkhkmnaaChecked
set_option linter.unusedVariables false
set_option linter.unusedSimpArgs false
set_option maxRecDepth 100000
set_option maxHeartbeats 4000000
namespace Hyp
open Go Go.Proofs
theorem mixed : Try.prog.follows .mixedOrders = true := by kernel_rfl
theorem sz54 : SizeIs Try.prog 54 2 := .of (by kernel_rfl)
theorem sz22 : SizeIs Try.prog 22 1 := .of (by kernel_rfl)
theorem el22 : ElemIs Try.prog 22 5 1 1 := .of Try.underlying22 (by kernel_rfl)
theorem bd54 : BuildIs Try.prog 54 [(0, 1), (1, 1)] [.slice none 0 0, i64 0] := .of Try.underlying54 (by kernel_rfl) (by kernel_rfl)
theorem bd56 : BuildIs Try.prog 56 [(0, 2)] [.slice none 0 0, i64 0] := .of Try.underlying56 (by kernel_rfl) (by kernel_rfl)
theorem sz56 : SizeIs Try.prog 56 2 := .of (by kernel_rfl)
theorem sz31 : SizeIs Try.prog 31 2 := .of (by kernel_rfl)
theorem zr31 : ZeroIs Try.prog 31 (.agg ([i64 0, .slice none 0 0]).toArray) := .of (by kernel_rfl)
theorem sz29 : SizeIs Try.prog 29 2 := .of (by kernel_rfl)
theorem zr29 : ZeroIs Try.prog 29 (.agg ([.slice none 0 0, i64 0]).toArray) := .of (by kernel_rfl)
theorem sz3 : SizeIs Try.prog 3 1 := .of (by kernel_rfl)
theorem bd29 : BuildIs Try.prog 29 [(0, 1), (1, 1)] [.slice none 0 0, i64 0] := .of Try.underlying29 (by kernel_rfl) (by kernel_rfl)
theorem sz5 : SizeIs Try.prog 5 1 := .of (by kernel_rfl)
theorem zr5 : ZeroIs Try.prog 5 (u8 0) := .of (by kernel_rfl)
def F_entropy_Source_More (p_a_heap_b : List UInt8) (p_a_heap_used : Int) (p_b : List UInt8) : Option (List UInt8 × Int) :=
  (appI 140737488355328 p_a_heap_b p_b).bind fun y102 =>
  some (y102, p_a_heap_used)
theorem entropy_Source_More_ok {S : Nat → Prop} (g_a : Nat) (vp_a_heap_b : Value) (p_a_heap_b : List UInt8) (p_a_heap_used : Int) (vp_b : Value) (p_b : List UInt8) (w : World) (H0 : Own w (footU [bx g_a [vp_a_heap_b, i64 p_a_heap_used], row 1 vp_a_heap_b (p_a_heap_b).length (cel E8 p_a_heap_b)]) w [bx g_a [vp_a_heap_b, i64 p_a_heap_used], row 1 vp_a_heap_b (p_a_heap_b).length (cel E8 p_a_heap_b)]) (hS : ∀ b, S b → ¬ footU [bx g_a [vp_a_heap_b, i64 p_a_heap_used], row 1 vp_a_heap_b (p_a_heap_b).length (cel E8 p_a_heap_b)] b) (hp_b : Sl S w vp_b p_b.length (cel E8 p_b)) (r : List UInt8 × Int) (hF : F_entropy_Source_More p_a_heap_b p_a_heap_used p_b = some r) :
    Calls Try.prog 15 #[.pointer (some ⟨g_a, 0, none⟩), vp_b] w (Ret fun v w' => ∃ (v2 : Value), v = .tuple #[] ∧ Own w (footU [bx g_a [vp_a_heap_b, i64 p_a_heap_used], row 1 vp_a_heap_b (p_a_heap_b).length (cel E8 p_a_heap_b)]) w' [bx g_a [v2, i64 r.2], row 1 v2 (r.1).length (cel E8 r.1)]) := by
  have qhp_b := hp_b.in (o := (footU [bx g_a [vp_a_heap_b, i64 p_a_heap_used], row 1 vp_a_heap_b (p_a_heap_b).length (cel E8 p_a_heap_b)])) (w0 := w) (l := [bx g_a [vp_a_heap_b, i64 p_a_heap_used], row 1 vp_a_heap_b (p_a_heap_b).length (cel E8 p_a_heap_b)]) hS
  refine calls_C Try.func15 rfl Try.ntmps15 rfl ?_
  unfold F_entropy_Source_More at hF
  refine C_seq ?_
  refine C_region rfl ?_
  refine L_op (o_moveE (v := .pointer (some ⟨g_a, 0, none⟩)) rfl ?_)
  refine L_op (o_nePtrNil Try.underlying26 rfl rfl ?_)
  refine L_nil ?_
  refine C_cond (b := true) rfl (fun hc101 => ?_) (fun hc101 => ?_)
  rotate_left
  · cases hc101
  refine C_region rfl ?_
  refine L_op (o_moveE (v := .pointer (some ⟨g_a, 0, none⟩)) rfl ?_)
  refine L_op (o_moveE (v := .pointer (some ⟨g_a, 0, none⟩)) rfl ?_)
  refine L_op (o_nilCheck rfl ?_)
  refine L_op (o_fieldAddr Try.underlying56 rfl sz54 rfl rfl ?_)
  refine L_op (o_fieldAddr Try.underlying54 rfl sz22 rfl rfl ?_)
  refine L_op (o_load Try.underlying22 rfl rfl ((H0.bxM (mem 0 rfl)).one 0 rfl) ?_)
  refine L_op (o_moveE (v := vp_b) rfl ?_)
  obtain ⟨y102, h103, hF⟩ := bindE hF
  obtain ⟨h104, h105⟩ := appI_some h103
  refine L_op (o_appendE (E := E8) (k := 1) el22 rfl H0 rfl rfl ((qhp_b.now H0)) (h104) h105 ?_)
  rintro v106 w107 _ rfl (H108 : Own w (footU [bx g_a [vp_a_heap_b, i64 p_a_heap_used], row 1 vp_a_heap_b (p_a_heap_b).length (cel E8 p_a_heap_b)]) w107 [bx g_a [vp_a_heap_b, i64 p_a_heap_used], row 1 v106 (y102).length (cel E8 y102)])
  refine L_op (o_nilCheck rfl ?_)
  refine L_op (o_fieldAddr Try.underlying56 rfl sz54 rfl rfl ?_)
  refine L_op (o_fieldAddr Try.underlying54 rfl sz22 rfl rfl ?_)
  refine L_do (o_store (l' := [bx g_a [v106, i64 p_a_heap_used], row 1 v106 (y102).length (cel E8 y102)]) (k := 0) (ys := [v106]) rfl H108 rfl rfl (cells_sl (H108.rowIsM (mem 1 rfl))) sz22 (ones_cons (onec (H108.rowIsM (mem 1 rfl))) ones_nil) (Nat.le_of_ble_eq_true rfl) rfl rfl ?_)
  intro w109 H110
  refine L_nil ?_
  have hr := Option.some.inj hF
  subst hr
  exact ⟨_, res_none rfl, v106, rfl, (H110).pick [0, 1] (by decide)⟩
def F_entropy_New (p_a : List UInt8) : Option (List UInt8 × Int) :=
  (appI 140737488355328 [] p_a).bind fun y105 =>
  some (y105, 0)
theorem entropy_New_ok {S : Nat → Prop} (vp_a : Value) (p_a : List UInt8) (w : World) (H0 : Own w (footU []) w []) (hS : ∀ b, S b → ¬ footU [] b) (hp_a : Sl S w vp_a p_a.length (cel E8 p_a)) (r : List UInt8 × Int) (hF : F_entropy_New p_a = some r) :
    Calls Try.prog 11 #[vp_a] w (Ret fun v w' => ∃ (g1 : Nat) (v3 : Value), v = .pointer (some ⟨g1, 0, none⟩) ∧ Own w (footU []) w' [bx g1 [v3, i64 r.2], row 1 v3 (r.1).length (cel E8 r.1)]) := by
  have qhp_a := hp_a.in (o := (footU [])) (w0 := w) (l := []) hS
  refine calls_C Try.func11 rfl Try.ntmps11 rfl ?_
  unfold F_entropy_New at hF
  refine C_seq ?_
  refine C_region rfl ?_
  refine L_op (o_assignE (v := .pointer none) rfl ?_)
  refine L_nil ?_
  refine C_seq ?_
  refine C_region rfl ?_
  refine L_op (o_slice0 el22 H0 ?_)
  intro v101 w102 hv103 H104
  refine L_op (o_moveE (v := vp_a) rfl ?_)
  obtain ⟨y105, h106, hF⟩ := bindE hF
  obtain ⟨h107, h108⟩ := appI_some h106
  have H109 := H104.nilRow 1 (v := v101) hv103
  refine L_op (o_appendE (E := E8) (k := 0) el22 rfl H109 rfl rfl ((qhp_a.now H109)) (h107) h108 ?_)
  rintro v111 w112 _ rfl (H113 : Own w (footU []) w112 [row 1 v111 (y105).length (cel E8 y105)])
  refine L_op (o_buildL (cs := [v111, i64 0]) (vs := [(0, [v111])]) bd54 ⟨rfl, pc rfl (cells_sl (H113.rowIsM (mem 0 rfl))), trivial⟩ rfl ?_)
  refine L_op (o_buildL (cs := [v111, i64 0]) (vs := [(0, [v111, i64 0])]) bd56 ⟨rfl, pc rfl rfl, trivial⟩ rfl ?_)
  refine L_op (o_box (v := .agg ([v111, i64 0]).toArray) (cs := [v111, i64 0]) rfl rfl H113 ?_)
  intro g114 w115 H116
  refine L_op (o_assignE (v := .pointer (some ⟨g114, 0, none⟩)) rfl ?_)
  refine L_nil ?_
  refine C_ret ?_
  have hr := Option.some.inj hF
  subst hr
  exact ⟨_, resR1 rfl rfl, g114, v111, rfl, (H116).pick [0, 1] (by decide)⟩
def F_hypogeumlaw08_few_l0 (p_b : List (Int × List UInt8)) : Nat → Int → Option ((Unit) ⊕ Bool)
  | 0, _ => none
  | k + 1, x135 =>
    if (decide (x135 < (((p_b).length : Int)))) = true then
    (getI p_b x135).bind fun y178 =>
    if (decide (400 < (((y178.2).length : Int)))) = true then
    some (.inr false)
    else
    F_hypogeumlaw08_few_l0 p_b k (w64 (x135 + 1))
    else
    some (.inl ())
def F_hypogeumlaw08_few (k : Nat) (p_a : List UInt8) (p_b : List (Int × List UInt8)) : Option (Bool) :=
  if ((decide (30 < (((p_b).length : Int))) || decide (4000 < (((p_a).length : Int))))) = true then
  some false
  else
  (F_hypogeumlaw08_few_l0 p_b k 0).bind fun out163 =>
  match out163 with
  | .inr r => some r
  | .inl o166 =>
  some true
theorem hypogeumlaw08_few_ok (k : Nat) {S : Nat → Prop} (vp_a : Value) (p_a : List UInt8) (vp_b : Value) (p_b : List (Int × List UInt8)) (w : World) (H0 : Own w (footU []) w []) (hS : ∀ b, S b → ¬ footU [] b) (hp_a : Sl S w vp_a p_a.length (cel E8 p_a)) (hp_b : RSl (RP (.ofEnc EI) (RS (.ofEnc E8))) S w vp_b p_b) (r : Bool) (hF : F_hypogeumlaw08_few k p_a p_b = some r) :
    Calls Try.prog 9 #[vp_a, vp_b] w (Ret fun v w' => v = .bool r ∧ Own w (footU []) w' []) := by
  have qhp_a := hp_a.in (o := (footU [])) (w0 := w) (l := []) hS
  have qhp_b := hp_b.in (o := (footU [])) (w0 := w) (l := []) hS
  refine calls_C Try.func9 rfl Try.ntmps9 rfl ?_
  unfold F_hypogeumlaw08_few at hF
  refine C_seq ?_
  refine C_region rfl ?_
  refine L_op (o_assignE (v := .bool false) rfl ?_)
  refine L_nil ?_
  refine C_seq ?_
  refine C_seqG 14 ((decide (30 < (((p_b).length : Int))) || decide (4000 < (((p_a).length : Int))))) [7, 8, 9, 10, 11, 12, 13, 14] ?_ ?_
  · refine C_region rfl ?_
    refine L_op (o_moveE (v := vp_b) rfl ?_)
    refine L_op (o_lenSl Try.underlying23 rfl qhp_b.is ?_)
    refine L_op (o_gtr rfl rfl ?_)
    refine L_op (o_moveE (v := .bool (decide (30 < (((p_b).length : Int))))) rfl ?_)
    rcases Bool.eq_false_or_eq_true (decide (30 < (((p_b).length : Int)))) with hc101 | hc101
    ·
      refine L_off rfl (congrArg Value.bool hc101) ?_
      refine L_off rfl (congrArg Value.bool hc101) ?_
      refine L_off rfl (congrArg Value.bool hc101) ?_
      refine L_op (o_pickE (v := .bool true) (congrArg Value.bool hc101) rfl ?_)
      refine L_nil ⟨rfl, congrArg Value.bool (by simp [hc101]), (same_upd (same_upd (same_upd (same_upd (same_upd (same_upd (same_upd (same_upd (fun _ _ => rfl) rfl) rfl) rfl) rfl) rfl) rfl) rfl) rfl)⟩
    ·
      refine L_on rfl (congrArg Value.bool hc101) (o_moveE (v := vp_a) rfl ?_)
      refine L_on rfl (congrArg Value.bool hc101) (o_lenSl Try.underlying22 rfl qhp_a.is ?_)
      refine L_on rfl (congrArg Value.bool hc101) (o_gtr rfl rfl ?_)
      refine L_op (o_pickE (v := .bool (decide (4000 < (((p_a).length : Int))))) (congrArg Value.bool hc101) rfl ?_)
      refine L_nil ⟨rfl, congrArg Value.bool (by simp [hc101]), (same_upd (same_upd (same_upd (same_upd (same_upd (same_upd (same_upd (same_upd (fun _ _ => rfl) rfl) rfl) rfl) rfl) rfl) rfl) rfl) rfl)⟩
  intro f102 hd103 hs104
  refine C_cond hd103 (fun hc105 => ?_) (fun hc105 => ?_)
  · replace hF := (ifT hc105).symm.trans hF
    refine C_seq ?_
    refine C_region rfl ?_
    refine L_op (o_assignE (v := .bool false) rfl ?_)
    refine L_nil ?_
    refine C_ret ?_
    have hr := Option.some.inj hF
    subst hr
    exact ⟨_, resR1 rfl rfl, rfl, (H0).pick [] (by decide)⟩
  · replace hF := (ifF hc105).symm.trans hF
    refine C_skip ?_
    refine C_seq ?_
    refine C_seq ?_
    refine C_region rfl ?_
    refine L_op (o_moveE (v := vp_b) (hs104 1 rfl) ?_)
    refine L_op (o_lenSl Try.underlying23 rfl qhp_b.is ?_)
    refine L_op (o_moveE (v := i64 0) rfl ?_)
    refine L_nil ?_
    obtain ⟨out163, hl164, hO165⟩ := bindE hF
    refine C_cut (fun f169 w170 => ∃ o166 : Unit, out163 = .inl o166 ∧ Own w (footU []) w170 []) ?_ ?_
    · refine C_block (C_loop (fun k f167 w168 => ∃ (x135 : Int), F_hypogeumlaw08_few_l0 p_b k x135 = some out163 ∧ f167 15 = vp_b ∧ f167 16 = i64 (((p_b).length : Int)) ∧ f167 17 = i64 x135 ∧ RSl (RP (.ofEnc EI) (RS (.ofEnc E8))) (TT S (footU []) w []) w168 vp_b p_b ∧ Own w (footU []) w168 []) k ?_ ?_)
      ·
        exact ⟨0, hl164, rfl, rfl, rfl, (((qhp_b.now H0)).lessP []), (H0).pick [] (by decide)⟩
      ·
        rintro k f171 w172 ⟨x135, hF, s174, s175, s176, q134, HB173⟩
        cases k with
        | zero => cases hF
        | succ k =>
          rw [F_hypogeumlaw08_few_l0.eq_2] at hF
          refine C_seq ?_
          refine C_region rfl ?_
          refine L_op (o_lss s176 s175 ?_)
          refine L_nil ?_
          refine C_seq ?_
          refine C_cond rfl (fun hc177 => ?_) (fun hc177 => ?_)
          · replace hF := (ifT hc177).symm.trans hF
            refine C_skip ?_
            refine C_seq ?_
            refine C_block ?_
            refine C_seq ?_
            refine C_region rfl ?_
            obtain ⟨y178, h179, hF⟩ := bindE hF
            obtain ⟨h180, h181, h182⟩ := getI_at h179
            obtain ⟨cs183, hat184, hrel185⟩ := q134.atS h182 (by decide)
            obtain ⟨_, _, rfl, rfl, ⟨v186, rfl, q187⟩⟩ := hrel185
            have q188 := rsl_enc q187
            refine L_op (o_indexSl (v := vp_b) Try.underlying23 sz31 s174 q134.is s176 h180 h181 ?_)
            refine L_op (o_loadA Try.underlying31 rfl sz31 rfl ((hat184.now HB173.fresh).at_) rfl ?_)
            refine L_op (o_alloc (cs := [i64 0, .slice none 0 0]) zr31 rfl HB173.fresh ?_)
            intro g189 w190 H191
            refine L_do (o_store (l' := [bx g189 [i64 y178.1, v186]]) (k := 0) (ys := [i64 y178.1, v186]) rfl H191 rfl rfl rfl sz31 (ones_cons rfl (ones_cons (onec q188.is) ones_nil)) (Nat.le_of_ble_eq_true rfl) rfl rfl ?_)
            intro w193 H194
            refine L_nil ?_
            refine C_seq ?_
            refine C_region rfl ?_
            refine L_op (o_fieldAddr Try.underlying31 rfl sz22 rfl rfl ?_)
            refine L_op (o_load Try.underlying22 rfl rfl ((H194.bxM (mem 0 rfl)).one 1 rfl) ?_)
            refine L_op (o_lenSl Try.underlying22 rfl q188.is ?_)
            refine L_op (o_gtr rfl rfl ?_)
            refine L_nil ?_
            refine C_cond rfl (fun hc195 => ?_) (fun hc195 => ?_)
            · replace hF := (ifT hc195).symm.trans hF
              refine C_seq ?_
              refine C_region rfl ?_
              refine L_op (o_assignE (v := .bool false) rfl ?_)
              refine L_nil ?_
              refine C_ret ?_
              have hr := Option.some.inj hF
              subst hr
              have hr := Option.some.inj hO165
              subst hr
              exact ⟨_, resR1 rfl rfl, rfl, (HB173.trans H194).pick [] (by decide)⟩
            · replace hF := (ifF hc195).symm.trans hF
              refine C_skip ?_
              refine C_region rfl ?_
              refine L_op (o_add s176 rfl ?_)
              refine L_op (o_moveE (v := i64 (w64 (x135 + 1))) rfl ?_)
              refine L_nil ?_
              exact ⟨k, Nat.lt_succ_self k, ⟨w64 (x135 + 1), hF, s174, s175, rfl, (((q134.now H194)).lessP []), (HB173.trans H194).pick [] (by decide)⟩⟩
          · replace hF := (ifF hc177).symm.trans hF
            refine C_exit ?_
            have hr196 := Option.some.inj hF
            subst hr196
            exact ⟨(), rfl, (HB173.trans HB173.fresh).pick [] (by decide)⟩
    · rintro f197 w198 ⟨o166, rfl, HB199⟩
      have hF := hO165
      refine C_seq ?_
      refine C_region rfl ?_
      refine L_op (o_assignE (v := .bool true) rfl ?_)
      refine L_nil ?_
      refine C_ret ?_
      have hr := Option.some.inj hF
      subst hr
      exact ⟨_, resR1 rfl rfl, rfl, (HB199.trans HB199.fresh).pick [] (by decide)⟩
def F_manifest_in (p_a : Int) : Option (Bool) :=
  some ((decide (1 ≤ p_a) && decide (p_a ≤ 1099511627776)))
theorem manifest_in_ok {S : Nat → Prop} (p_a : Int) (w : World) (H0 : Own w (footU []) w []) (hS : ∀ b, S b → ¬ footU [] b)  (r : Bool) (hF : F_manifest_in p_a = some r) :
    Calls Try.prog 27 #[i64 p_a] w (Ret fun v w' => v = .bool r ∧ Own w (footU []) w' []) := by
  refine calls_C Try.func27 rfl Try.ntmps27 rfl ?_
  unfold F_manifest_in at hF
  refine C_seq ?_
  refine C_region rfl ?_
  refine L_op (o_assignE (v := .bool false) rfl ?_)
  refine L_nil ?_
  refine C_seqG 2 ((decide (1 ≤ p_a) && decide (p_a ≤ 1099511627776))) [3, 4, 5, 6, 7, 8, 2] ?_ ?_
  · refine C_region rfl ?_
    refine L_op (o_moveE (v := i64 p_a) rfl ?_)
    refine L_op (o_geq rfl rfl ?_)
    refine L_op (o_moveE (v := .bool (decide (1 ≤ p_a))) rfl ?_)
    rcases Bool.eq_false_or_eq_true (decide (1 ≤ p_a)) with hc101 | hc101
    ·
      refine L_on rfl (congrArg Value.bool hc101) (o_moveE (v := i64 p_a) rfl ?_)
      refine L_on rfl (congrArg Value.bool hc101) (o_leq rfl rfl ?_)
      refine L_op (o_pickE (v := .bool (decide (p_a ≤ 1099511627776))) (congrArg Value.bool hc101) rfl ?_)
      refine L_op (o_assignE (v := .bool (decide (p_a ≤ 1099511627776))) rfl ?_)
      refine L_nil ⟨rfl, congrArg Value.bool (by simp [hc101]), (same_upd (same_upd (same_upd (same_upd (same_upd (same_upd (same_upd (fun _ _ => rfl) rfl) rfl) rfl) rfl) rfl) rfl) rfl)⟩
    ·
      refine L_off rfl (congrArg Value.bool hc101) ?_
      refine L_off rfl (congrArg Value.bool hc101) ?_
      refine L_op (o_pickE (v := .bool false) (congrArg Value.bool hc101) rfl ?_)
      refine L_op (o_assignE (v := .bool false) rfl ?_)
      refine L_nil ⟨rfl, congrArg Value.bool (by simp [hc101]), (same_upd (same_upd (same_upd (same_upd (same_upd (same_upd (same_upd (fun _ _ => rfl) rfl) rfl) rfl) rfl) rfl) rfl) rfl)⟩
  intro f102 hd103 hs104
  refine C_ret ?_
  have hr := Option.some.inj hF
  subst hr
  exact ⟨_, resR1 rfl (hd103), rfl, (H0).pick [] (by decide)⟩
def F_hypogeumref08_Source_More (p_a_B : List UInt8) (p_a_Drawn : Int) (p_b : List UInt8) : Option (List UInt8 × Int) :=
  (appI 140737488355328 [] p_a_B).bind fun y109 =>
  (appI 140737488355328 y109 p_b).bind fun y114 =>
  some (y114, p_a_Drawn)
theorem hypogeumref08_Source_More_ok {S : Nat → Prop} (vp_a_B : Value) (p_a_B : List UInt8) (p_a_Drawn : Int) (vp_b : Value) (p_b : List UInt8) (w : World) (H0 : Own w (footU []) w []) (hS : ∀ b, S b → ¬ footU [] b) (hp_a_B : Sl S w vp_a_B p_a_B.length (cel E8 p_a_B)) (hp_b : Sl S w vp_b p_b.length (cel E8 p_b)) (r : List UInt8 × Int) (hF : F_hypogeumref08_Source_More p_a_B p_a_Drawn p_b = some r) :
    Calls Try.prog 22 #[.agg ([vp_a_B, i64 p_a_Drawn]).toArray, vp_b] w (Ret fun v w' => ∃ (v1 : Value), v = .agg ([v1, i64 r.2]).toArray ∧ Own w (footU []) w' [row 1 v1 (r.1).length (cel E8 r.1)]) := by
  have qhp_a_B := hp_a_B.in (o := (footU [])) (w0 := w) (l := []) hS
  have qhp_b := hp_b.in (o := (footU [])) (w0 := w) (l := []) hS
  refine calls_C Try.func22 rfl Try.ntmps22 rfl ?_
  unfold F_hypogeumref08_Source_More at hF
  refine C_seq ?_
  refine C_region rfl ?_
  refine L_op (o_box (v := .agg ([vp_a_B, i64 p_a_Drawn]).toArray) (cs := [vp_a_B, i64 p_a_Drawn]) rfl rfl H0 ?_)
  intro g101 w102 H103
  refine L_op (o_alloc (cs := [.slice none 0 0, i64 0]) zr29 rfl H103 ?_)
  intro g105 w106 H107
  refine L_nil ?_
  refine C_seq ?_
  obtain ⟨y109, h110, hF⟩ := bindE hF
  obtain ⟨h111, h112⟩ := appI_some h110
  obtain ⟨y114, h115, hF⟩ := bindE hF
  obtain ⟨h116, h117⟩ := appI_some h115
  refine C_any (nb := 2) 9 [⟨[], [], fun _ v => ∃ a, v = .slice a 0 0, fun _ _ => [], []⟩, qv [] (.pointer (some ⟨g101, 0, none⟩)), qv [1] (vp_a_B), ⟨[0, 1, 2], [], fun vs v => True, fun vs v => [row 1 v (y109).length (cel E8 y109)], []⟩, qv [] (vp_b), ⟨[0, 1, 2, 3, 4], [], fun vs v => True, fun vs v => [row 1 v (y114).length (cel E8 y114)], [3]⟩, qv [] (.pointer (some ⟨g101, 1, none⟩)), qv [6] (i64 p_a_Drawn), dv [0, 1, 2, 3, 4, 5, 6, 7] [5] (fun vs => .agg ([(vs.getD 0 undef), i64 p_a_Drawn]).toArray)] mixed (by kernel_rfl) H107 ⟨?_, ?_, ?_, ?_, ?_, ?_, ?_, ?_, ?_, trivial⟩ ?_
  · intro fA wA lA val (HA : Own _ _ wA lA) hl hb hd
    exact o_slice0 el22 HA fun v w hv H => ⟨hv, H⟩
  · intro fA wA lA val (HA : Own _ _ wA lA) hl hb hd
    exact o_fieldAddr Try.underlying29 rfl sz22 (hb 2 rfl) rfl ⟨rfl, HA⟩
  · intro fA wA lA val (HA : Own _ _ wA lA) hl hb hd
    exact o_load Try.underlying22 rfl ((hd 1 rfl).v rfl rfl) ((HA.bxM (hl 1 _ rfl rfl)).one 0 rfl) ⟨rfl, HA⟩
  · intro fA wA lA val (HA : Own _ _ wA lA) hl hb hd
    exact o_append0 (E := E8) el22 (hd 0 rfl).2.1 HA (hd 0 rfl).1 ((hd 2 rfl).v rfl rfl) ((qhp_a_B.now HA)) (h111) h112 fun v w H => ⟨trivial, H⟩
  · intro fA wA lA val (HA : Own _ _ wA lA) hl hb hd
    exact o_moveE (v := vp_b) (hb 1 rfl) ⟨rfl, HA⟩
  · intro fA wA lA val HA hl hb hd
    have HA' : Own _ _ wA (row 1 (val 3) (y109).length (cel E8 y109) :: lA) := HA
    refine o_appendE (E := E8) (k := 0) el22 rfl HA' (hd 3 rfl).1 ((hd 4 rfl).v rfl rfl) ((qhp_b.now HA)) (h116) h117 ?_
    rintro v w _ rfl H
    exact ⟨trivial, H⟩
  · intro fA wA lA val (HA : Own _ _ wA lA) hl hb hd
    exact o_fieldAddr Try.underlying29 rfl sz3 (hb 2 rfl) rfl ⟨rfl, HA⟩
  · intro fA wA lA val (HA : Own _ _ wA lA) hl hb hd
    exact o_load Try.underlying3 rfl ((hd 6 rfl).v rfl rfl) ((HA.bxM (hl 1 _ rfl rfl)).one 1 rfl) ⟨rfl, HA⟩
  · intro fA wA lA val (HA : Own _ _ wA lA) hl hb hd
    exact o_buildL (cs := [(val 5), i64 p_a_Drawn]) (vs := [(0, [(val 5)]), (1, [i64 p_a_Drawn])]) bd29 ⟨rfl, pc (hd 5 rfl).1 (cells_sl (HA.rowIsM ((hd 5 rfl).2.2 rfl _ (mem 0 rfl)))), rfl, pc ((hd 7 rfl).v rfl rfl) rfl, trivial⟩ rfl ⟨rfl, HA⟩
  · intro f120 w121 val119 H122 hd123 hb124
    have H125 : Own w (footU []) w121 [row 1 (val119 5) (y114).length (cel E8 y114), bx g105 [.slice none 0 0, i64 0], bx g101 [vp_a_B, i64 p_a_Drawn]] := H122
    refine L_do (o_store (l' := [row 1 (val119 5) (y114).length (cel E8 y114), bx g105 [(val119 5), i64 p_a_Drawn], bx g101 [vp_a_B, i64 p_a_Drawn]]) (k := 1) (ys := [(val119 5), i64 p_a_Drawn]) rfl H125 (hb124 4 rfl) (fin_w (hd123 8 (by decide)) rfl) rfl sz29 (ones_cons (onec (H125.rowIsM (mem 0 rfl))) (ones_cons rfl ones_nil)) (Nat.le_of_ble_eq_true rfl) rfl rfl ?_)
    intro w126 H127
    refine L_nil ?_
    refine C_ret ?_
    have hr := Option.some.inj hF
    subst hr
    exact ⟨_, resR1 rfl (res_cellA Try.underlying29 rfl sz29 (hb124 4 rfl) ((H127.bxM (mem 1 rfl)).part 0 2 rfl) rfl), (val119 5), rfl, (H127).pick [0] (by decide)⟩
def F_hypogeumref08_Source_Draw (p_a_B : List UInt8) (p_a_Drawn : Int) (p_b : Int) : Option (List UInt8 × Int × List UInt8 × Int) :=
  if ((decide (p_b < 0) || decide (4096 < p_b))) = true then
  some (p_a_B, p_a_Drawn, [], 1)
  else
  if (decide ((((p_a_B).length : Int)) < p_b)) = true then
  some (p_a_B, p_a_Drawn, [], 9)
  else
  (subI p_a_B p_b ((p_a_B).length)).bind fun y119 =>
  (subI p_a_B 0 p_b).bind fun y128 =>
  some ((y119, w64 (p_a_Drawn + p_b), y128, 0))
theorem hypogeumref08_Source_Draw_ok {S : Nat → Prop} (vp_a_B : Value) (p_a_B : List UInt8) (p_a_Drawn : Int) (p_b : Int) (w : World) (H0 : Own w (footU []) w []) (hS : ∀ b, S b → ¬ footU [] b) (hp_a_B : Sl S w vp_a_B p_a_B.length (cel E8 p_a_B)) (r : List UInt8 × Int × List UInt8 × Int) (hF : F_hypogeumref08_Source_Draw p_a_B p_a_Drawn p_b = some r) :
    Calls Try.prog 23 #[.agg ([vp_a_B, i64 p_a_Drawn]).toArray, i64 p_b] w (Ret fun v w' => ∃ (v1 : Value) (v5 : Value), v = .tuple #[.agg ([v1, i64 r.2.1]).toArray, v5, i64 r.2.2.2] ∧ Sl (TT S (footU []) w []) w' v1 (r.1).length (cel E8 r.1) ∧ Sl (TT S (footU []) w []) w' v5 (r.2.2.1).length (cel E8 r.2.2.1) ∧ Own w (footU []) w' []) := by
  have qhp_a_B := hp_a_B.in (o := (footU [])) (w0 := w) (l := []) hS
  refine calls_C Try.func23 rfl Try.ntmps23 rfl ?_
  unfold F_hypogeumref08_Source_Draw at hF
  refine C_seq ?_
  refine C_region rfl ?_
  refine L_op (o_box (v := .agg ([vp_a_B, i64 p_a_Drawn]).toArray) (cs := [vp_a_B, i64 p_a_Drawn]) rfl rfl H0 ?_)
  intro g101 w102 H103
  refine L_op (o_alloc (cs := [.slice none 0 0, i64 0]) zr29 rfl H103 ?_)
  intro g105 w106 H107
  refine L_op (o_assignE (v := .slice none 0 0) rfl ?_)
  refine L_op (o_assignE (v := i64 0) rfl ?_)
  refine L_nil ?_
  refine C_seq ?_
  refine C_seqG 12 ((decide (p_b < 0) || decide (4096 < p_b))) [7, 8, 9, 10, 11, 12] ?_ ?_
  · refine C_region rfl ?_
    refine L_op (o_moveE (v := i64 p_b) rfl ?_)
    refine L_op (o_lss rfl rfl ?_)
    refine L_op (o_moveE (v := .bool (decide (p_b < 0))) rfl ?_)
    rcases Bool.eq_false_or_eq_true (decide (p_b < 0)) with hc109 | hc109
    ·
      refine L_off rfl (congrArg Value.bool hc109) ?_
      refine L_off rfl (congrArg Value.bool hc109) ?_
      refine L_op (o_pickE (v := .bool true) (congrArg Value.bool hc109) rfl ?_)
      refine L_nil ⟨rfl, congrArg Value.bool (by simp [hc109]), (same_upd (same_upd (same_upd (same_upd (same_upd (same_upd (fun _ _ => rfl) rfl) rfl) rfl) rfl) rfl) rfl)⟩
    ·
      refine L_on rfl (congrArg Value.bool hc109) (o_moveE (v := i64 p_b) rfl ?_)
      refine L_on rfl (congrArg Value.bool hc109) (o_gtr rfl rfl ?_)
      refine L_op (o_pickE (v := .bool (decide (4096 < p_b))) (congrArg Value.bool hc109) rfl ?_)
      refine L_nil ⟨rfl, congrArg Value.bool (by simp [hc109]), (same_upd (same_upd (same_upd (same_upd (same_upd (same_upd (fun _ _ => rfl) rfl) rfl) rfl) rfl) rfl) rfl)⟩
  intro f110 hd111 hs112
  refine C_cond hd111 (fun hc113 => ?_) (fun hc113 => ?_)
  · replace hF := (ifT hc113).symm.trans hF
    refine C_seq ?_
    refine C_region rfl ?_
    refine L_op (o_loadA Try.underlying29 rfl sz29 (hs112 2 rfl) ((H107.bxM (mem 1 rfl)).part 0 2 rfl) rfl ?_)
    refine L_do (o_store (l' := [bx g105 [vp_a_B, i64 p_a_Drawn], bx g101 [vp_a_B, i64 p_a_Drawn]]) (k := 0) (ys := [vp_a_B, i64 p_a_Drawn]) rfl H107 (hs112 4 rfl) rfl rfl sz29 (ones_cons (onec qhp_a_B.is) (ones_cons rfl ones_nil)) (Nat.le_of_ble_eq_true rfl) rfl rfl ?_)
    intro w114 H115
    refine L_op (o_assignE (v := .slice none 0 0) rfl ?_)
    refine L_op (o_assignE (v := i64 1) rfl ?_)
    refine L_nil ?_
    refine C_ret ?_
    have hr := Option.some.inj hF
    subst hr
    exact ⟨_, resR3 rfl (res_cellA Try.underlying29 rfl sz29 (hs112 4 rfl) ((H115.bxM (mem 0 rfl)).part 0 2 rfl) rfl) rfl rfl, vp_a_B, .slice none 0 0, rfl, (((qhp_a_B.now H115)).lessP []), (Sl.nil _ _), (H115).pick [] (by decide)⟩
  · replace hF := (ifF hc113).symm.trans hF
    refine C_skip ?_
    refine C_seq ?_
    refine C_seq ?_
    refine C_region rfl ?_
    refine L_op (o_moveE (v := i64 p_b) (hs112 1 rfl) ?_)
    refine L_op (o_fieldAddr Try.underlying29 rfl sz22 (hs112 2 rfl) rfl ?_)
    refine L_op (o_load Try.underlying22 rfl rfl ((H107.bxM (mem 1 rfl)).one 0 rfl) ?_)
    refine L_op (o_lenSl Try.underlying22 rfl qhp_a_B.is ?_)
    refine L_op (o_gtr rfl rfl ?_)
    refine L_nil ?_
    refine C_cond rfl (fun hc116 => ?_) (fun hc116 => ?_)
    · replace hF := (ifT hc116).symm.trans hF
      refine C_seq ?_
      refine C_region rfl ?_
      refine L_op (o_loadA Try.underlying29 rfl sz29 (hs112 2 rfl) ((H107.bxM (mem 1 rfl)).part 0 2 rfl) rfl ?_)
      refine L_do (o_store (l' := [bx g105 [vp_a_B, i64 p_a_Drawn], bx g101 [vp_a_B, i64 p_a_Drawn]]) (k := 0) (ys := [vp_a_B, i64 p_a_Drawn]) rfl H107 (hs112 4 rfl) rfl rfl sz29 (ones_cons (onec qhp_a_B.is) (ones_cons rfl ones_nil)) (Nat.le_of_ble_eq_true rfl) rfl rfl ?_)
      intro w117 H118
      refine L_op (o_assignE (v := .slice none 0 0) rfl ?_)
      refine L_op (o_assignE (v := i64 9) rfl ?_)
      refine L_nil ?_
      refine C_ret ?_
      have hr := Option.some.inj hF
      subst hr
      exact ⟨_, resR3 rfl (res_cellA Try.underlying29 rfl sz29 (hs112 4 rfl) ((H118.bxM (mem 0 rfl)).part 0 2 rfl) rfl) rfl rfl, vp_a_B, .slice none 0 0, rfl, (((qhp_a_B.now H118)).lessP []), (Sl.nil _ _), (H118).pick [] (by decide)⟩
    · replace hF := (ifF hc116).symm.trans hF
      refine C_skip ?_
      refine C_seq ?_
      obtain ⟨y119, h120, hF⟩ := bindE hF
      obtain ⟨a121, b122, h123, h124, h125, h126, h127⟩ := subI_some h120
      obtain ⟨y128, h129, hF⟩ := bindE hF
      obtain ⟨a130, b131, h132, h133, h134, h135, h136⟩ := subI_some h129
      refine C_any (nb := 2) 16 [qv [] (.pointer (some ⟨g101, 0, none⟩)), qv [0] (vp_a_B), qv [] (i64 p_b), qv [0, 1, 2] ((subv 1 vp_a_B a121 b122)), qv [] (.pointer (some ⟨g101, 1, none⟩)), qv [4] (i64 p_a_Drawn), qv [] (i64 p_b), qv [4, 5, 6] (i64 (w64 (p_a_Drawn + p_b))), qv [0, 1, 2, 3, 4, 5, 6, 7] (.agg ([(subv 1 vp_a_B a121 b122), i64 (w64 (p_a_Drawn + p_b))]).toArray), qv [] (.pointer (some ⟨g101, 0, none⟩)), qv [9] (vp_a_B), qv [] (i64 p_b), qv [9, 10, 11] ((subv 1 vp_a_B a130 b131)), ⟨[0, 1, 2, 3, 4, 5, 6, 7, 8], [], fun vs v => v = undef, fun vs v => [bx g105 [(subv 1 vp_a_B a121 b122), i64 (w64 (p_a_Drawn + p_b))]], [16]⟩, qv [0, 1, 2, 3, 4, 5, 6, 7, 8, 9, 10, 11, 12, 13] ((subv 1 vp_a_B a130 b131)), qv [0, 1, 2, 3, 4, 5, 6, 7, 8, 9, 10, 11, 12, 13, 14] (i64 0)] mixed (by kernel_rfl) H107 ⟨?_, ?_, ?_, ?_, ?_, ?_, ?_, ?_, ?_, ?_, ?_, ?_, ?_, ?_, ?_, ?_, trivial⟩ ?_
      · intro fA wA lA val (HA : Own _ _ wA lA) hl hb hd
        exact o_fieldAddr Try.underlying29 rfl sz22 ((hb 2 rfl).trans (hs112 2 rfl)) rfl ⟨rfl, HA⟩
      · intro fA wA lA val (HA : Own _ _ wA lA) hl hb hd
        exact o_load Try.underlying22 rfl ((hd 0 rfl).v rfl rfl) ((HA.bxM (hl 1 _ rfl rfl)).one 0 rfl) ⟨rfl, HA⟩
      · intro fA wA lA val (HA : Own _ _ wA lA) hl hb hd
        exact o_moveE (v := i64 p_b) ((hb 1 rfl).trans (hs112 1 rfl)) ⟨rfl, HA⟩
      · intro fA wA lA val (HA : Own _ _ wA lA) hl hb hd
        exact o_slice (v := vp_a_B) Try.underlying22 sz5 ((hd 1 rfl).v rfl rfl) qhp_a_B.is (.inr ⟨_, rfl, _, ((hd 2 rfl).v rfl rfl).trans (congrArg (Value.int .i64) h123)⟩) (.inl ⟨rfl, by omega⟩) h125 h126 ⟨rfl, HA⟩
      · intro fA wA lA val (HA : Own _ _ wA lA) hl hb hd
        exact o_fieldAddr Try.underlying29 rfl sz3 ((hb 2 rfl).trans (hs112 2 rfl)) rfl ⟨rfl, HA⟩
      · intro fA wA lA val (HA : Own _ _ wA lA) hl hb hd
        exact o_load Try.underlying3 rfl ((hd 4 rfl).v rfl rfl) ((HA.bxM (hl 1 _ rfl rfl)).one 1 rfl) ⟨rfl, HA⟩
      · intro fA wA lA val (HA : Own _ _ wA lA) hl hb hd
        exact o_moveE (v := i64 p_b) ((hb 1 rfl).trans (hs112 1 rfl)) ⟨rfl, HA⟩
      · intro fA wA lA val (HA : Own _ _ wA lA) hl hb hd
        exact o_add ((hd 5 rfl).v rfl rfl) ((hd 6 rfl).v rfl rfl) ⟨rfl, HA⟩
      · intro fA wA lA val (HA : Own _ _ wA lA) hl hb hd
        exact o_buildL (cs := [(subv 1 vp_a_B a121 b122), i64 (w64 (p_a_Drawn + p_b))]) (vs := [(0, [(subv 1 vp_a_B a121 b122)]), (1, [i64 (w64 (p_a_Drawn + p_b))])]) bd29 ⟨rfl, pc ((hd 3 rfl).v rfl rfl) (cells_sl (((qhp_a_B.now HA)).subE (h125) (h126) (h127)).is), rfl, pc ((hd 7 rfl).v rfl rfl) rfl, trivial⟩ rfl ⟨rfl, HA⟩
      · intro fA wA lA val (HA : Own _ _ wA lA) hl hb hd
        exact o_fieldAddr Try.underlying29 rfl sz22 ((hb 2 rfl).trans (hs112 2 rfl)) rfl ⟨rfl, HA⟩
      · intro fA wA lA val (HA : Own _ _ wA lA) hl hb hd
        exact o_load Try.underlying22 rfl ((hd 9 rfl).v rfl rfl) ((HA.bxM (hl 1 _ rfl rfl)).one 0 rfl) ⟨rfl, HA⟩
      · intro fA wA lA val (HA : Own _ _ wA lA) hl hb hd
        exact o_moveE (v := i64 p_b) ((hb 1 rfl).trans (hs112 1 rfl)) ⟨rfl, HA⟩
      · intro fA wA lA val (HA : Own _ _ wA lA) hl hb hd
        exact o_slice (v := vp_a_B) Try.underlying22 sz5 ((hd 10 rfl).v rfl rfl) qhp_a_B.is (.inl ⟨rfl, by omega⟩) (.inr ⟨_, rfl, _, ((hd 11 rfl).v rfl rfl).trans (congrArg (Value.int .i64) h133)⟩) h134 h135 ⟨rfl, HA⟩
      · intro fA wA lA val HA hl hb hd
        have HA' : Own _ _ wA (bx g105 [.slice none 0 0, i64 0] :: lA) := HA
        refine o_store (k := 0) (ys := [(subv 1 vp_a_B a121 b122), i64 (w64 (p_a_Drawn + p_b))]) rfl HA' ((hb 4 rfl).trans (hs112 4 rfl)) ((hd 8 rfl).v rfl rfl) rfl sz29 (ones_cons (onec (((qhp_a_B.now HA)).subE (h125) (h126) (h127)).is) (ones_cons rfl ones_nil)) (Nat.le_of_ble_eq_true rfl) rfl rfl ?_
        intro w H
        exact ⟨rfl, H⟩
      · intro fA wA lA val (HA : Own _ _ wA lA) hl hb hd
        exact o_assignE (v := (subv 1 vp_a_B a130 b131)) ((hd 12 rfl).v rfl rfl) ⟨rfl, HA⟩
      · intro fA wA lA val (HA : Own _ _ wA lA) hl hb hd
        exact o_assignE (v := i64 0) rfl ⟨rfl, HA⟩
      · intro f138 w139 val137 H140 hd141 hb142
        have H143 : Own w (footU []) w139 [bx g105 [(subv 1 vp_a_B a121 b122), i64 (w64 (p_a_Drawn + p_b))], bx g101 [vp_a_B, i64 p_a_Drawn]] := H140
        refine L_nil ?_
        refine C_ret ?_
        have hr := Option.some.inj hF
        subst hr
        exact ⟨_, resR3 rfl (res_cellA Try.underlying29 rfl sz29 ((hb142 4 rfl).trans (hs112 4 rfl)) ((H143.bxM (mem 0 rfl)).part 0 2 rfl) rfl) ((fin_v (hd141 14 (by decide)) rfl)) ((fin_v (hd141 15 (by decide)) rfl)), (subv 1 vp_a_B a121 b122), (subv 1 vp_a_B a130 b131), rfl, ((((qhp_a_B.now H143)).subE (h125) (h126) (h127)).lessP []), ((((qhp_a_B.now H143)).subE (h134) (h135) (h136)).lessP []), (H143).pick [] (by decide)⟩
def F_entropy_heap_rest (p_a_b : List UInt8) (p_a_used : Int) : Option (Int) :=
  some (w64 ((((p_a_b).length : Int)) - p_a_used))
theorem entropy_heap_rest_ok {S : Nat → Prop} (g_a : Nat) (vp_a_b : Value) (p_a_b : List UInt8) (p_a_used : Int) (w : World) (H0 : Own w (footU []) w []) (hS : ∀ b, S b → ¬ footU [] b) (hp_a : AtS S w ⟨g_a, 0, none⟩ [vp_a_b, i64 p_a_used]) (hp_a_b : Sl S w vp_a_b p_a_b.length (cel E8 p_a_b)) (r : Int) (hF : F_entropy_heap_rest p_a_b p_a_used = some r) :
    Calls Try.prog 24 #[.pointer (some ⟨g_a, 0, none⟩)] w (Ret fun v w' => v = i64 r ∧ Own w (footU []) w' []) := by
  have qhp_a := hp_a.in (o := (footU [])) (w0 := w) (l := []) hS
  have qhp_a_b := hp_a_b.in (o := (footU [])) (w0 := w) (l := []) hS
  refine calls_C Try.func24 rfl Try.ntmps24 rfl ?_
  unfold F_entropy_heap_rest at hF
  refine C_seq ?_
  refine C_region rfl ?_
  refine L_op (o_assignE (v := i64 0) rfl ?_)
  refine L_nil ?_
  refine C_seq ?_
  refine C_any (nb := 0) 11 [qv [] (.pointer (some ⟨g_a, 0, none⟩)), qv [0] (.pointer (some ⟨g_a, 0, none⟩)), qv [0, 1] (.pointer (some ⟨g_a, 0, none⟩)), qv [0, 1, 2] (vp_a_b), qv [0, 1, 2, 3] (i64 (((p_a_b).length : Int))), qv [] (.pointer (some ⟨g_a, 0, none⟩)), qv [5] (.pointer (some ⟨g_a, 0, none⟩)), qv [5, 6] (.pointer (some ⟨g_a, 1, none⟩)), qv [5, 6, 7] (i64 p_a_used), qv [0, 1, 2, 3, 4, 5, 6, 7, 8] (i64 (w64 ((((p_a_b).length : Int)) - p_a_used))), qv [0, 1, 2, 3, 4, 5, 6, 7, 8, 9] (i64 (w64 ((((p_a_b).length : Int)) - p_a_used)))] mixed (by kernel_rfl) H0 ⟨?_, ?_, ?_, ?_, ?_, ?_, ?_, ?_, ?_, ?_, ?_, trivial⟩ ?_
  · intro fA wA lA val (HA : Own _ _ wA lA) hl hb hd
    exact o_moveE (v := .pointer (some ⟨g_a, 0, none⟩)) (hb 0 rfl) ⟨rfl, HA⟩
  · intro fA wA lA val (HA : Own _ _ wA lA) hl hb hd
    exact o_nilCheck ((hd 0 rfl).v rfl rfl) ⟨rfl, HA⟩
  · intro fA wA lA val (HA : Own _ _ wA lA) hl hb hd
    exact o_fieldAddr Try.underlying54 rfl sz22 ((hd 1 rfl).v rfl rfl) rfl ⟨rfl, HA⟩
  · intro fA wA lA val (HA : Own _ _ wA lA) hl hb hd
    exact o_load Try.underlying22 rfl ((hd 2 rfl).v rfl rfl) (((qhp_a).now HA).one 0 rfl) ⟨rfl, HA⟩
  · intro fA wA lA val (HA : Own _ _ wA lA) hl hb hd
    exact o_lenSl Try.underlying22 ((hd 3 rfl).v rfl rfl) qhp_a_b.is ⟨rfl, HA⟩
  · intro fA wA lA val (HA : Own _ _ wA lA) hl hb hd
    exact o_moveE (v := .pointer (some ⟨g_a, 0, none⟩)) (hb 0 rfl) ⟨rfl, HA⟩
  · intro fA wA lA val (HA : Own _ _ wA lA) hl hb hd
    exact o_nilCheck ((hd 5 rfl).v rfl rfl) ⟨rfl, HA⟩
  · intro fA wA lA val (HA : Own _ _ wA lA) hl hb hd
    exact o_fieldAddr Try.underlying54 rfl sz3 ((hd 6 rfl).v rfl rfl) rfl ⟨rfl, HA⟩
  · intro fA wA lA val (HA : Own _ _ wA lA) hl hb hd
    exact o_load Try.underlying3 rfl ((hd 7 rfl).v rfl rfl) (((qhp_a).now HA).one 1 rfl) ⟨rfl, HA⟩
  · intro fA wA lA val (HA : Own _ _ wA lA) hl hb hd
    exact o_sub ((hd 4 rfl).v rfl rfl) ((hd 8 rfl).v rfl rfl) ⟨rfl, HA⟩
  · intro fA wA lA val (HA : Own _ _ wA lA) hl hb hd
    exact o_assignE (v := i64 (w64 ((((p_a_b).length : Int)) - p_a_used))) ((hd 9 rfl).v rfl rfl) ⟨rfl, HA⟩
  · intro f102 w103 val101 H104 hd105 hb106
    have H107 : Own w (footU []) w103 [] := H104
    refine L_nil ?_
    refine C_ret ?_
    have hr := Option.some.inj hF
    subst hr
    exact ⟨_, resR1 rfl ((fin_v (hd105 10 (by decide)) rfl)), rfl, (H107).pick [] (by decide)⟩
def F_entropy_Source_Copy (p_a_heap_b : List UInt8) (p_a_heap_used : Int) : Option (List UInt8 × Int) :=
  (appI 140737488355328 [] p_a_heap_b).bind fun y102 =>
  some (y102, p_a_heap_used)
theorem entropy_Source_Copy_ok {S : Nat → Prop} (g_a : Nat) (vp_a_heap_b : Value) (p_a_heap_b : List UInt8) (p_a_heap_used : Int) (w : World) (H0 : Own w (footU []) w []) (hS : ∀ b, S b → ¬ footU [] b) (hp_a : AtS S w ⟨g_a, 0, none⟩ [vp_a_heap_b, i64 p_a_heap_used]) (hp_a_heap_b : Sl S w vp_a_heap_b p_a_heap_b.length (cel E8 p_a_heap_b)) (r : List UInt8 × Int) (hF : F_entropy_Source_Copy p_a_heap_b p_a_heap_used = some r) :
    Calls Try.prog 17 #[.pointer (some ⟨g_a, 0, none⟩)] w (Ret fun v w' => ∃ (g1 : Nat) (v3 : Value), v = .pointer (some ⟨g1, 0, none⟩) ∧ Own w (footU []) w' [bx g1 [v3, i64 r.2], row 1 v3 (r.1).length (cel E8 r.1)]) := by
  have qhp_a := hp_a.in (o := (footU [])) (w0 := w) (l := []) hS
  have qhp_a_heap_b := hp_a_heap_b.in (o := (footU [])) (w0 := w) (l := []) hS
  refine calls_C Try.func17 rfl Try.ntmps17 rfl ?_
  unfold F_entropy_Source_Copy at hF
  refine C_seq ?_
  refine C_region rfl ?_
  refine L_op (o_assignE (v := .pointer none) rfl ?_)
  refine L_nil ?_
  refine C_seq ?_
  refine C_seq ?_
  refine C_region rfl ?_
  refine L_op (o_moveE (v := .pointer (some ⟨g_a, 0, none⟩)) rfl ?_)
  refine L_op (o_eqPtrNil Try.underlying26 rfl rfl ?_)
  refine L_nil ?_
  refine C_cond (b := false) rfl (fun hc101 => ?_) (fun hc101 => ?_)
  · cases hc101
  refine C_skip ?_
  refine C_seq ?_
  obtain ⟨y102, h103, hF⟩ := bindE hF
  obtain ⟨h104, h105⟩ := appI_some h103
  refine C_any (nb := 0) 16 [⟨[], [], fun _ v => ∃ a, v = .slice a 0 0, fun _ _ => [], []⟩, qv [] (.pointer (some ⟨g_a, 0, none⟩)), qv [1] (.pointer (some ⟨g_a, 0, none⟩)), qv [1, 2] (.pointer (some ⟨g_a, 0, none⟩)), qv [1, 2, 3] (.pointer (some ⟨g_a, 0, none⟩)), qv [1, 2, 3, 4] (vp_a_heap_b), ⟨[0, 1, 2, 3, 4, 5], [], fun vs v => True, fun vs v => [row 1 v (y102).length (cel E8 y102)], []⟩, qv [] (.pointer (some ⟨g_a, 0, none⟩)), qv [7] (.pointer (some ⟨g_a, 0, none⟩)), qv [7, 8] (.pointer (some ⟨g_a, 0, none⟩)), qv [7, 8, 9] (.pointer (some ⟨g_a, 1, none⟩)), qv [7, 8, 9, 10] (i64 p_a_heap_used), dv [0, 1, 2, 3, 4, 5, 6, 7, 8, 9, 10, 11] [6] (fun vs => .agg ([(vs.getD 0 undef), i64 p_a_heap_used]).toArray), dv [0, 1, 2, 3, 4, 5, 6, 7, 8, 9, 10, 11, 12] [6] (fun vs => .agg ([(vs.getD 0 undef), i64 p_a_heap_used]).toArray), ⟨[0, 1, 2, 3, 4, 5, 6, 7, 8, 9, 10, 11, 12, 13], [6], fun vs v => v = .pointer (some ⟨blkOf v, 0, none⟩), fun vs v => [bx ((blkOf v)) [(vs.getD 0 undef), i64 p_a_heap_used]], []⟩, dv [0, 1, 2, 3, 4, 5, 6, 7, 8, 9, 10, 11, 12, 13, 14] [14] (fun vs => .pointer (some ⟨(blkOf (vs.getD 0 undef)), 0, none⟩))] mixed (by kernel_rfl) H0 ⟨?_, ?_, ?_, ?_, ?_, ?_, ?_, ?_, ?_, ?_, ?_, ?_, ?_, ?_, ?_, ?_, trivial⟩ ?_
  · intro fA wA lA val (HA : Own _ _ wA lA) hl hb hd
    exact o_slice0 el22 HA fun v w hv H => ⟨hv, H⟩
  · intro fA wA lA val (HA : Own _ _ wA lA) hl hb hd
    exact o_moveE (v := .pointer (some ⟨g_a, 0, none⟩)) (hb 0 rfl) ⟨rfl, HA⟩
  · intro fA wA lA val (HA : Own _ _ wA lA) hl hb hd
    exact o_nilCheck ((hd 1 rfl).v rfl rfl) ⟨rfl, HA⟩
  · intro fA wA lA val (HA : Own _ _ wA lA) hl hb hd
    exact o_fieldAddr Try.underlying56 rfl sz54 ((hd 2 rfl).v rfl rfl) rfl ⟨rfl, HA⟩
  · intro fA wA lA val (HA : Own _ _ wA lA) hl hb hd
    exact o_fieldAddr Try.underlying54 rfl sz22 ((hd 3 rfl).v rfl rfl) rfl ⟨rfl, HA⟩
  · intro fA wA lA val (HA : Own _ _ wA lA) hl hb hd
    exact o_load Try.underlying22 rfl ((hd 4 rfl).v rfl rfl) (((qhp_a).now HA).one 0 rfl) ⟨rfl, HA⟩
  · intro fA wA lA val (HA : Own _ _ wA lA) hl hb hd
    exact o_append0 (E := E8) el22 (hd 0 rfl).2.1 HA (hd 0 rfl).1 ((hd 5 rfl).v rfl rfl) ((qhp_a_heap_b.now HA)) (h104) h105 fun v w H => ⟨trivial, H⟩
  · intro fA wA lA val (HA : Own _ _ wA lA) hl hb hd
    exact o_moveE (v := .pointer (some ⟨g_a, 0, none⟩)) (hb 0 rfl) ⟨rfl, HA⟩
  · intro fA wA lA val (HA : Own _ _ wA lA) hl hb hd
    exact o_nilCheck ((hd 7 rfl).v rfl rfl) ⟨rfl, HA⟩
  · intro fA wA lA val (HA : Own _ _ wA lA) hl hb hd
    exact o_fieldAddr Try.underlying56 rfl sz54 ((hd 8 rfl).v rfl rfl) rfl ⟨rfl, HA⟩
  · intro fA wA lA val (HA : Own _ _ wA lA) hl hb hd
    exact o_fieldAddr Try.underlying54 rfl sz3 ((hd 9 rfl).v rfl rfl) rfl ⟨rfl, HA⟩
  · intro fA wA lA val (HA : Own _ _ wA lA) hl hb hd
    exact o_load Try.underlying3 rfl ((hd 10 rfl).v rfl rfl) (((qhp_a).now HA).one 1 rfl) ⟨rfl, HA⟩
  · intro fA wA lA val (HA : Own _ _ wA lA) hl hb hd
    exact o_buildL (cs := [(val 6), i64 p_a_heap_used]) (vs := [(0, [(val 6)]), (1, [i64 p_a_heap_used])]) bd54 ⟨rfl, pc (hd 6 rfl).1 (cells_sl (HA.rowIsM ((hd 6 rfl).2.2 rfl _ (mem 0 rfl)))), rfl, pc ((hd 11 rfl).v rfl rfl) rfl, trivial⟩ rfl ⟨rfl, HA⟩
  · intro fA wA lA val (HA : Own _ _ wA lA) hl hb hd
    exact o_buildL (cs := [(val 6), i64 p_a_heap_used]) (vs := [(0, [(val 6), i64 p_a_heap_used])]) bd56 ⟨rfl, pc ((hd 12 rfl).w rfl rfl) rfl, trivial⟩ rfl ⟨rfl, HA⟩
  · intro fA wA lA val (HA : Own _ _ wA lA) hl hb hd
    exact o_box (cs := [(val 6), i64 p_a_heap_used]) ((hd 13 rfl).w rfl rfl) rfl HA fun g w H => ⟨rfl, H⟩
  · intro fA wA lA val (HA : Own _ _ wA lA) hl hb hd
    exact o_assignE (v := .pointer (some ⟨(blkOf (val 14)), 0, none⟩)) ((hd 14 rfl).1.trans (hd 14 rfl).2.1) ⟨rfl, HA⟩
  · intro f109 w110 val108 H111 hd112 hb113
    have H114 : Own w (footU []) w110 [row 1 (val108 6) (y102).length (cel E8 y102), bx ((blkOf (val108 14))) [(val108 6), i64 p_a_heap_used]] := H111
    refine L_nil ?_
    refine C_ret ?_
    have hr := Option.some.inj hF
    subst hr
    exact ⟨_, resR1 rfl ((fin_w (hd112 15 (by decide)) rfl)), (blkOf (val108 14)), (val108 6), rfl, (H114).pick [1, 0] (by decide)⟩
def F_entropy_Source_Draw (p_a_heap_b : List UInt8) (p_a_heap_used : Int) (p_b : Int) : Option (List UInt8 × Int × List UInt8 × Int) :=
  if ((decide (p_b < 0) || decide (4096 < p_b))) = true then
  some ([], 1, p_a_heap_b, p_a_heap_used)
  else
  (F_entropy_heap_rest p_a_heap_b p_a_heap_used).bind fun r108 =>
  if (decide (r108 < p_b)) = true then
  some ([], 9, p_a_heap_b, p_a_heap_used)
  else
  (subI p_a_heap_b p_a_heap_used (w64 (p_a_heap_used + p_b))).bind fun y116 =>
  (appI 140737488355328 [] y116).bind fun y125 =>
  some ((y125, 0, p_a_heap_b, w64 (p_a_heap_used + p_b)))
theorem entropy_Source_Draw_ok {S : Nat → Prop} (g_a : Nat) (vp_a_heap_b : Value) (p_a_heap_b : List UInt8) (p_a_heap_used : Int) (p_b : Int) (w : World) (H0 : Own w (footU [bx g_a [vp_a_heap_b, i64 p_a_heap_used], row 1 vp_a_heap_b (p_a_heap_b).length (cel E8 p_a_heap_b)]) w [bx g_a [vp_a_heap_b, i64 p_a_heap_used], row 1 vp_a_heap_b (p_a_heap_b).length (cel E8 p_a_heap_b)]) (hS : ∀ b, S b → ¬ footU [bx g_a [vp_a_heap_b, i64 p_a_heap_used], row 1 vp_a_heap_b (p_a_heap_b).length (cel E8 p_a_heap_b)] b)  (r : List UInt8 × Int × List UInt8 × Int) (hF : F_entropy_Source_Draw p_a_heap_b p_a_heap_used p_b = some r) :
    Calls Try.prog 16 #[.pointer (some ⟨g_a, 0, none⟩), i64 p_b] w (Ret fun v w' => ∃ (v1 : Value) (v6 : Value), v = .tuple #[v1, i64 r.2.1] ∧ Own w (footU [bx g_a [vp_a_heap_b, i64 p_a_heap_used], row 1 vp_a_heap_b (p_a_heap_b).length (cel E8 p_a_heap_b)]) w' [row 1 v1 (r.1).length (cel E8 r.1), bx g_a [v6, i64 r.2.2.2], row 1 v6 (r.2.2.1).length (cel E8 r.2.2.1)]) := by
  refine calls_C Try.func16 rfl Try.ntmps16 rfl ?_
  unfold F_entropy_Source_Draw at hF
  refine C_seq ?_
  refine C_region rfl ?_
  refine L_op (o_assignE (v := .slice none 0 0) rfl ?_)
  refine L_op (o_assignE (v := i64 0) rfl ?_)
  refine L_nil ?_
  refine C_seq ?_
  refine C_seqG 12 ((decide (p_b < 0) || decide (4096 < p_b))) [7, 8, 9, 10, 11, 12] ?_ ?_
  · refine C_region rfl ?_
    refine L_op (o_moveE (v := i64 p_b) rfl ?_)
    refine L_op (o_lss rfl rfl ?_)
    refine L_op (o_moveE (v := .bool (decide (p_b < 0))) rfl ?_)
    rcases Bool.eq_false_or_eq_true (decide (p_b < 0)) with hc101 | hc101
    ·
      refine L_off rfl (congrArg Value.bool hc101) ?_
      refine L_off rfl (congrArg Value.bool hc101) ?_
      refine L_op (o_pickE (v := .bool true) (congrArg Value.bool hc101) rfl ?_)
      refine L_nil ⟨rfl, congrArg Value.bool (by simp [hc101]), (same_upd (same_upd (same_upd (same_upd (same_upd (same_upd (fun _ _ => rfl) rfl) rfl) rfl) rfl) rfl) rfl)⟩
    ·
      refine L_on rfl (congrArg Value.bool hc101) (o_moveE (v := i64 p_b) rfl ?_)
      refine L_on rfl (congrArg Value.bool hc101) (o_gtr rfl rfl ?_)
      refine L_op (o_pickE (v := .bool (decide (4096 < p_b))) (congrArg Value.bool hc101) rfl ?_)
      refine L_nil ⟨rfl, congrArg Value.bool (by simp [hc101]), (same_upd (same_upd (same_upd (same_upd (same_upd (same_upd (fun _ _ => rfl) rfl) rfl) rfl) rfl) rfl) rfl)⟩
  intro f102 hd103 hs104
  refine C_cond hd103 (fun hc105 => ?_) (fun hc105 => ?_)
  · replace hF := (ifT hc105).symm.trans hF
    refine C_seq ?_
    refine C_region rfl ?_
    refine L_op (o_assignE (v := .slice none 0 0) rfl ?_)
    refine L_op (o_assignE (v := i64 1) rfl ?_)
    refine L_nil ?_
    refine C_ret ?_
    have hr := Option.some.inj hF
    subst hr
    have H106 := H0.nilRow 1 (v := .slice none 0 0) ⟨none, rfl⟩
    exact ⟨_, resR2 rfl rfl rfl, .slice none 0 0, vp_a_heap_b, rfl, (H106).pick [0, 1, 2] (by decide)⟩
  · replace hF := (ifF hc105).symm.trans hF
    refine C_skip ?_
    refine C_seq ?_
    refine C_seq ?_
    refine C_region rfl ?_
    refine L_op (o_moveE (v := .pointer (some ⟨g_a, 0, none⟩)) (hs104 0 rfl) ?_)
    refine L_op (o_eqPtrNil Try.underlying26 rfl rfl ?_)
    refine L_op (o_moveE (v := .bool false) rfl ?_)
    refine L_on rfl rfl (o_moveE (v := i64 p_b) (hs104 1 rfl) ?_)
    refine L_on rfl rfl (o_moveE (v := .pointer (some ⟨g_a, 0, none⟩)) (hs104 0 rfl) ?_)
    refine L_on rfl rfl (o_nilCheck rfl ?_)
    refine L_on rfl rfl (o_fieldAddr Try.underlying56 rfl sz54 rfl rfl ?_)
    obtain ⟨r108, h109, hF⟩ := bindE hF
    refine L_on rfl rfl (o_call (args := #[.pointer (some ⟨g_a, 0, none⟩)]) rfl Try.func24 rfl (args1 rfl) (entropy_heap_rest_ok (S := SC [bx g_a [vp_a_heap_b, i64 p_a_heap_used], row 1 vp_a_heap_b (p_a_heap_b).length (cel E8 p_a_heap_b)] []) g_a vp_a_heap_b p_a_heap_b p_a_heap_used w (H0.take [] (by decide)) (SC.ok _ []) ((H0.bxSCM (mem 0 rfl) [] (k := 0) rfl rfl)) (H0.rowSCM (mem 1 rfl) [] (k := 1) rfl rfl) _ h109) ?_)
    rintro _ w110 ⟨rfl, H112⟩
    have H111 : Own w (footU [bx g_a [vp_a_heap_b, i64 p_a_heap_used], row 1 vp_a_heap_b (p_a_heap_b).length (cel E8 p_a_heap_b)]) w110 [bx g_a [vp_a_heap_b, i64 p_a_heap_used], row 1 vp_a_heap_b (p_a_heap_b).length (cel E8 p_a_heap_b)] := H0.back [] H112
    refine L_on rfl rfl (o_gtr rfl rfl ?_)
    refine L_op (o_pickE (v := .bool (decide (r108 < p_b))) rfl rfl ?_)
    refine L_nil ?_
    refine C_cond rfl (fun hc113 => ?_) (fun hc113 => ?_)
    · replace hF := (ifT hc113).symm.trans hF
      refine C_seq ?_
      refine C_region rfl ?_
      refine L_op (o_assignE (v := .slice none 0 0) rfl ?_)
      refine L_op (o_assignE (v := i64 9) rfl ?_)
      refine L_nil ?_
      refine C_ret ?_
      have hr := Option.some.inj hF
      subst hr
      have H114 := H111.nilRow 1 (v := .slice none 0 0) ⟨none, rfl⟩
      exact ⟨_, resR2 rfl rfl rfl, .slice none 0 0, vp_a_heap_b, rfl, (H114).pick [0, 1, 2] (by decide)⟩
    · replace hF := (ifF hc113).symm.trans hF
      refine C_skip ?_
      refine C_seq ?_
      obtain ⟨y116, h117, hF⟩ := bindE hF
      obtain ⟨a118, b119, h120, h121, h122, h123, h124⟩ := subI_some h117
      obtain ⟨y125, h126, hF⟩ := bindE hF
      obtain ⟨h127, h128⟩ := appI_some h126
      refine C_any (nb := 2) 21 [⟨[], [], fun _ v => ∃ a, v = .slice a 0 0, fun _ _ => [], []⟩, qv [] (.pointer (some ⟨g_a, 0, none⟩)), qv [1] (.pointer (some ⟨g_a, 0, none⟩)), qv [1, 2] (.pointer (some ⟨g_a, 0, none⟩)), qv [1, 2, 3] (.pointer (some ⟨g_a, 0, none⟩)), qv [1, 2, 3, 4] (vp_a_heap_b), qv [] (.pointer (some ⟨g_a, 0, none⟩)), qv [6] (.pointer (some ⟨g_a, 0, none⟩)), qv [6, 7] (.pointer (some ⟨g_a, 0, none⟩)), qv [6, 7, 8] (.pointer (some ⟨g_a, 1, none⟩)), qv [6, 7, 8, 9] (i64 p_a_heap_used), qv [] (.pointer (some ⟨g_a, 0, none⟩)), qv [11] (.pointer (some ⟨g_a, 0, none⟩)), qv [11, 12] (.pointer (some ⟨g_a, 0, none⟩)), qv [11, 12, 13] (.pointer (some ⟨g_a, 1, none⟩)), qv [11, 12, 13, 14] (i64 p_a_heap_used), qv [] (i64 p_b), qv [11, 12, 13, 14, 15, 16] (i64 (w64 (p_a_heap_used + p_b))), qv [1, 2, 3, 4, 5, 6, 7, 8, 9, 10, 11, 12, 13, 14, 15, 16, 17] ((subv 1 vp_a_heap_b a118 b119)), ⟨[0, 1, 2, 3, 4, 5, 6, 7, 8, 9, 10, 11, 12, 13, 14, 15, 16, 17, 18], [], fun vs v => True, fun vs v => [row 1 v (y125).length (cel E8 y125)], []⟩, dv [0, 1, 2, 3, 4, 5, 6, 7, 8, 9, 10, 11, 12, 13, 14, 15, 16, 17, 18, 19] [19] (fun vs => (vs.getD 0 undef))] mixed (by kernel_rfl) H111 ⟨?_, ?_, ?_, ?_, ?_, ?_, ?_, ?_, ?_, ?_, ?_, ?_, ?_, ?_, ?_, ?_, ?_, ?_, ?_, ?_, ?_, trivial⟩ ?_
      · intro fA wA lA val (HA : Own _ _ wA lA) hl hb hd
        exact o_slice0 el22 HA fun v w hv H => ⟨hv, H⟩
      · intro fA wA lA val (HA : Own _ _ wA lA) hl hb hd
        exact o_moveE (v := .pointer (some ⟨g_a, 0, none⟩)) ((hb 0 rfl).trans (hs104 0 rfl)) ⟨rfl, HA⟩
      · intro fA wA lA val (HA : Own _ _ wA lA) hl hb hd
        exact o_nilCheck ((hd 1 rfl).v rfl rfl) ⟨rfl, HA⟩
      · intro fA wA lA val (HA : Own _ _ wA lA) hl hb hd
        exact o_fieldAddr Try.underlying56 rfl sz54 ((hd 2 rfl).v rfl rfl) rfl ⟨rfl, HA⟩
      · intro fA wA lA val (HA : Own _ _ wA lA) hl hb hd
        exact o_fieldAddr Try.underlying54 rfl sz22 ((hd 3 rfl).v rfl rfl) rfl ⟨rfl, HA⟩
      · intro fA wA lA val (HA : Own _ _ wA lA) hl hb hd
        exact o_load Try.underlying22 rfl ((hd 4 rfl).v rfl rfl) ((HA.bxM (hl 0 _ rfl rfl)).one 0 rfl) ⟨rfl, HA⟩
      · intro fA wA lA val (HA : Own _ _ wA lA) hl hb hd
        exact o_moveE (v := .pointer (some ⟨g_a, 0, none⟩)) ((hb 0 rfl).trans (hs104 0 rfl)) ⟨rfl, HA⟩
      · intro fA wA lA val (HA : Own _ _ wA lA) hl hb hd
        exact o_nilCheck ((hd 6 rfl).v rfl rfl) ⟨rfl, HA⟩
      · intro fA wA lA val (HA : Own _ _ wA lA) hl hb hd
        exact o_fieldAddr Try.underlying56 rfl sz54 ((hd 7 rfl).v rfl rfl) rfl ⟨rfl, HA⟩
      · intro fA wA lA val (HA : Own _ _ wA lA) hl hb hd
        exact o_fieldAddr Try.underlying54 rfl sz3 ((hd 8 rfl).v rfl rfl) rfl ⟨rfl, HA⟩
      · intro fA wA lA val (HA : Own _ _ wA lA) hl hb hd
        exact o_load Try.underlying3 rfl ((hd 9 rfl).v rfl rfl) ((HA.bxM (hl 0 _ rfl rfl)).one 1 rfl) ⟨rfl, HA⟩
      · intro fA wA lA val (HA : Own _ _ wA lA) hl hb hd
        exact o_moveE (v := .pointer (some ⟨g_a, 0, none⟩)) ((hb 0 rfl).trans (hs104 0 rfl)) ⟨rfl, HA⟩
      · intro fA wA lA val (HA : Own _ _ wA lA) hl hb hd
        exact o_nilCheck ((hd 11 rfl).v rfl rfl) ⟨rfl, HA⟩
      · intro fA wA lA val (HA : Own _ _ wA lA) hl hb hd
        exact o_fieldAddr Try.underlying56 rfl sz54 ((hd 12 rfl).v rfl rfl) rfl ⟨rfl, HA⟩
      · intro fA wA lA val (HA : Own _ _ wA lA) hl hb hd
        exact o_fieldAddr Try.underlying54 rfl sz3 ((hd 13 rfl).v rfl rfl) rfl ⟨rfl, HA⟩
      · intro fA wA lA val (HA : Own _ _ wA lA) hl hb hd
        exact o_load Try.underlying3 rfl ((hd 14 rfl).v rfl rfl) ((HA.bxM (hl 0 _ rfl rfl)).one 1 rfl) ⟨rfl, HA⟩
      · intro fA wA lA val (HA : Own _ _ wA lA) hl hb hd
        exact o_moveE (v := i64 p_b) ((hb 1 rfl).trans (hs104 1 rfl)) ⟨rfl, HA⟩
      · intro fA wA lA val (HA : Own _ _ wA lA) hl hb hd
        exact o_add ((hd 15 rfl).v rfl rfl) ((hd 16 rfl).v rfl rfl) ⟨rfl, HA⟩
      · intro fA wA lA val (HA : Own _ _ wA lA) hl hb hd
        exact o_slice (v := vp_a_heap_b) Try.underlying22 sz5 ((hd 5 rfl).v rfl rfl) (HA.rowIsM (hl 1 _ rfl rfl)) (.inr ⟨_, rfl, _, ((hd 10 rfl).v rfl rfl).trans (congrArg (Value.int .i64) h120)⟩) (.inr ⟨_, rfl, _, ((hd 17 rfl).v rfl rfl).trans (congrArg (Value.int .i64) h121)⟩) h122 h123 ⟨rfl, HA⟩
      · intro fA wA lA val (HA : Own _ _ wA lA) hl hb hd
        exact o_append0 (E := E8) el22 (hd 0 rfl).2.1 HA (hd 0 rfl).1 ((hd 18 rfl).v rfl rfl) ((HA.rowM (hl 1 _ rfl rfl)).subE (h122) (h123) (h124)) (h127) h128 fun v w H => ⟨trivial, H⟩
      · intro fA wA lA val (HA : Own _ _ wA lA) hl hb hd
        exact o_assignE (v := (val 19)) (hd 19 rfl).1 ⟨rfl, HA⟩
      · intro f131 w132 val130 H133 hd134 hb135
        have H136 : Own w (footU [bx g_a [vp_a_heap_b, i64 p_a_heap_used], row 1 vp_a_heap_b (p_a_heap_b).length (cel E8 p_a_heap_b)]) w132 [row 1 (val130 19) (y125).length (cel E8 y125), bx g_a [vp_a_heap_b, i64 p_a_heap_used], row 1 vp_a_heap_b (p_a_heap_b).length (cel E8 p_a_heap_b)] := H133
        refine L_nil ?_
        refine C_seq ?_
        refine C_region rfl ?_
        refine L_op (o_moveE (v := .pointer (some ⟨g_a, 0, none⟩)) ((hb135 0 rfl).trans (hs104 0 rfl)) ?_)
        refine L_op (o_nilCheck rfl ?_)
        refine L_op (o_fieldAddr Try.underlying56 rfl sz54 rfl rfl ?_)
        refine L_op (o_fieldAddr Try.underlying54 rfl sz3 rfl rfl ?_)
        refine L_op (o_load Try.underlying3 rfl rfl ((H136.bxM (mem 1 rfl)).one 1 rfl) ?_)
        refine L_op (o_moveE (v := i64 p_b) ((hb135 1 rfl).trans (hs104 1 rfl)) ?_)
        refine L_op (o_add rfl rfl ?_)
        refine L_op (o_nilCheck rfl ?_)
        refine L_op (o_fieldAddr Try.underlying56 rfl sz54 rfl rfl ?_)
        refine L_op (o_fieldAddr Try.underlying54 rfl sz3 rfl rfl ?_)
        refine L_do (o_store (l' := [row 1 (val130 19) (y125).length (cel E8 y125), bx g_a [vp_a_heap_b, i64 (w64 (p_a_heap_used + p_b))], row 1 vp_a_heap_b (p_a_heap_b).length (cel E8 p_a_heap_b)]) (k := 1) (ys := [i64 (w64 (p_a_heap_used + p_b))]) rfl H136 rfl rfl rfl sz3 rfl (Nat.le_of_ble_eq_true rfl) rfl rfl ?_)
        intro w137 H138
        refine L_nil ?_
        refine C_seq ?_
        refine C_region rfl ?_
        refine L_op (o_moveE (v := (val130 19)) (fin_w (hd134 20 (by decide)) rfl) ?_)
        refine L_op (o_assignE (v := (val130 19)) rfl ?_)
        refine L_op (o_assignE (v := i64 0) rfl ?_)
        refine L_nil ?_
        refine C_ret ?_
        have hr := Option.some.inj hF
        subst hr
        exact ⟨_, resR2 rfl rfl rfl, (val130 19), vp_a_heap_b, rfl, (H138).pick [0, 1, 2] (by decide)⟩
def F_hypogeumlaw08_does_l0 (y118 : List UInt8) : Nat → (List UInt8) → Int → Option (Unit)
  | 0, _, _ => none
  | k + 1, x182, x184 =>
    if (decide (x184 < (((y118).length : Int)))) = true then
    (getI x182 x184).bind fun y244 =>
    (getI x182 x184).bind fun y249 =>
    F_hypogeumlaw08_does_l0 y118 k ((x182).set (Int.toNat x184) ((y244 + (1 : UInt8)))) (w64 (x184 + 1))
    else
    some ()
def F_hypogeumlaw08_does_l1 (r277 : List UInt8 × Int × List UInt8 × Int) : Nat → (List UInt8) → Int → Option (Unit)
  | 0, _, _ => none
  | k + 1, x349, x351 =>
    if (decide (x351 < (((r277.1).length : Int)))) = true then
    (getI x349 x351).bind fun y407 =>
    (getI x349 x351).bind fun y412 =>
    F_hypogeumlaw08_does_l1 r277 k ((x349).set (Int.toNat x351) ((y407 + (1 : UInt8)))) (w64 (x351 + 1))
    else
    some ()
def F_hypogeumlaw08_does (k : Nat) (p_a_heap_b : List UInt8) (p_a_heap_used : Int) (p_b_B : List UInt8) (p_b_Drawn : Int) (p_c_N : Int) (p_c_More : List UInt8) : Option (List UInt8 × Int × Bool × List UInt8 × Int) :=
  if (decide (p_c_N < (-9))) = true then
  (appI 140737488355328 [] p_c_More).bind fun y118 =>
  (F_entropy_Source_More p_a_heap_b p_a_heap_used y118).bind fun r127 =>
  (F_hypogeumlaw08_does_l0 y118 k y118 0).bind fun out227 =>
  (F_hypogeumref08_Source_More p_b_B p_b_Drawn p_c_More).bind fun r263 =>
  some (r263.1, r263.2, true, r127.1, r127.2)
  else
  (F_entropy_Source_Draw p_a_heap_b p_a_heap_used p_c_N).bind fun r277 =>
  (F_hypogeumref08_Source_Draw p_b_B p_b_Drawn p_c_N).bind fun r287 =>
  (F_hypogeumlaw08_does_l1 r277 k r277.1 0).bind fun out390 =>
  some ((r287.1, r287.2.1, (decide (r277.1 = r287.2.2.1) && decide (r277.2.1 = r287.2.2.2)), r277.2.2.1, r277.2.2.2))
theorem hypogeumlaw08_does_ok (k : Nat) {S : Nat → Prop} (g_a : Nat) (vp_a_heap_b : Value) (p_a_heap_b : List UInt8) (p_a_heap_used : Int) (vp_b_B : Value) (p_b_B : List UInt8) (p_b_Drawn : Int) (p_c_N : Int) (vp_c_More : Value) (p_c_More : List UInt8) (w : World) (H0 : Own w (footU [bx g_a [vp_a_heap_b, i64 p_a_heap_used], row 1 vp_a_heap_b (p_a_heap_b).length (cel E8 p_a_heap_b)]) w [bx g_a [vp_a_heap_b, i64 p_a_heap_used], row 1 vp_a_heap_b (p_a_heap_b).length (cel E8 p_a_heap_b)]) (hS : ∀ b, S b → ¬ footU [bx g_a [vp_a_heap_b, i64 p_a_heap_used], row 1 vp_a_heap_b (p_a_heap_b).length (cel E8 p_a_heap_b)] b) (hp_b_B : Sl S w vp_b_B p_b_B.length (cel E8 p_b_B)) (hp_c_More : Sl S w vp_c_More p_c_More.length (cel E8 p_c_More)) (r : List UInt8 × Int × Bool × List UInt8 × Int) (hF : F_hypogeumlaw08_does k p_a_heap_b p_a_heap_used p_b_B p_b_Drawn p_c_N p_c_More = some r) :
    Calls Try.prog 12 #[.pointer (some ⟨g_a, 0, none⟩), .agg ([vp_b_B, i64 p_b_Drawn]).toArray, .agg ([i64 p_c_N, vp_c_More]).toArray] w (Ret fun v w' => ∃ (v1 : Value) (v7 : Value), v = .tuple #[.agg ([v1, i64 r.2.1]).toArray, .bool r.2.2.1] ∧ Sl (TT S (footU [bx g_a [vp_a_heap_b, i64 p_a_heap_used], row 1 vp_a_heap_b (p_a_heap_b).length (cel E8 p_a_heap_b)]) w [bx g_a [v7, i64 r.2.2.2.2], row 1 v7 (r.2.2.2.1).length (cel E8 r.2.2.2.1)]) w' v1 (r.1).length (cel E8 r.1) ∧ Own w (footU [bx g_a [vp_a_heap_b, i64 p_a_heap_used], row 1 vp_a_heap_b (p_a_heap_b).length (cel E8 p_a_heap_b)]) w' [bx g_a [v7, i64 r.2.2.2.2], row 1 v7 (r.2.2.2.1).length (cel E8 r.2.2.2.1)]) := by
  have qhp_b_B := hp_b_B.in (o := (footU [bx g_a [vp_a_heap_b, i64 p_a_heap_used], row 1 vp_a_heap_b (p_a_heap_b).length (cel E8 p_a_heap_b)])) (w0 := w) (l := [bx g_a [vp_a_heap_b, i64 p_a_heap_used], row 1 vp_a_heap_b (p_a_heap_b).length (cel E8 p_a_heap_b)]) hS
  have qhp_c_More := hp_c_More.in (o := (footU [bx g_a [vp_a_heap_b, i64 p_a_heap_used], row 1 vp_a_heap_b (p_a_heap_b).length (cel E8 p_a_heap_b)])) (w0 := w) (l := [bx g_a [vp_a_heap_b, i64 p_a_heap_used], row 1 vp_a_heap_b (p_a_heap_b).length (cel E8 p_a_heap_b)]) hS
  refine calls_C Try.func12 rfl Try.ntmps12 rfl ?_
  unfold F_hypogeumlaw08_does at hF
  refine C_seq ?_
  refine C_region rfl ?_
  refine L_op (o_box (v := .agg ([vp_b_B, i64 p_b_Drawn]).toArray) (cs := [vp_b_B, i64 p_b_Drawn]) rfl rfl H0 ?_)
  intro g101 w102 H103
  refine L_op (o_box (v := .agg ([i64 p_c_N, vp_c_More]).toArray) (cs := [i64 p_c_N, vp_c_More]) rfl rfl H103 ?_)
  intro g105 w106 H107
  refine L_op (o_alloc (cs := [.slice none 0 0, i64 0]) zr29 rfl H107 ?_)
  intro g109 w110 H111
  refine L_op (o_assignE (v := .bool false) rfl ?_)
  refine L_nil ?_
  refine C_seq ?_
  refine C_seq ?_
  refine C_region rfl ?_
  refine L_op (o_fieldAddr Try.underlying31 rfl sz3 rfl rfl ?_)
  refine L_op (o_load Try.underlying3 rfl rfl ((H111.bxM (mem 1 rfl)).one 0 rfl) ?_)
  refine L_op (o_lss rfl rfl ?_)
  refine L_nil ?_
  refine C_cond rfl (fun hc113 => ?_) (fun hc113 => ?_)
  · replace hF := (ifT hc113).symm.trans hF
    refine C_seq ?_
    refine C_region rfl ?_
    refine L_op (o_slice0 el22 H111 ?_)
    intro v114 w115 hv116 H117
    refine L_op (o_fieldAddr Try.underlying31 rfl sz22 rfl rfl ?_)
    refine L_op (o_load Try.underlying22 rfl rfl ((H117.bxM (mem 1 rfl)).one 1 rfl) ?_)
    obtain ⟨y118, h119, hF⟩ := bindE hF
    obtain ⟨h120, h121⟩ := appI_some h119
    have H122 := H117.nilRow 1 (v := v114) hv116
    refine L_op (o_appendE (E := E8) (k := 0) el22 rfl H122 rfl rfl ((qhp_c_More.now H122)) (h120) h121 ?_)
    rintro v124 w125 _ rfl (H126 : Own w (footU [bx g_a [vp_a_heap_b, i64 p_a_heap_used], row 1 vp_a_heap_b (p_a_heap_b).length (cel E8 p_a_heap_b)]) w125 [row 1 v124 (y118).length (cel E8 y118), bx g109 [.slice none 0 0, i64 0], bx g105 [i64 p_c_N, vp_c_More], bx g101 [vp_b_B, i64 p_b_Drawn], bx g_a [vp_a_heap_b, i64 p_a_heap_used], row 1 vp_a_heap_b (p_a_heap_b).length (cel E8 p_a_heap_b)])
    refine L_op (o_assignE (v := v124) rfl ?_)
    refine L_nil ?_
    refine C_seq ?_
    refine C_region rfl ?_
    refine L_op (o_moveE (v := .pointer (some ⟨g_a, 0, none⟩)) rfl ?_)
    refine L_op (o_moveE (v := v124) rfl ?_)
    obtain ⟨r127, h128, hF⟩ := bindE hF
    refine L_op (o_call (args := #[.pointer (some ⟨g_a, 0, none⟩), v124]) rfl Try.func15 rfl (args2 rfl rfl) (entropy_Source_More_ok (S := SC [row 1 v124 (y118).length (cel E8 y118), bx g109 [.slice none 0 0, i64 0], bx g105 [i64 p_c_N, vp_c_More], bx g101 [vp_b_B, i64 p_b_Drawn], bx g_a [vp_a_heap_b, i64 p_a_heap_used], row 1 vp_a_heap_b (p_a_heap_b).length (cel E8 p_a_heap_b)] [4, 5]) g_a vp_a_heap_b p_a_heap_b p_a_heap_used v124 y118 w125 (H126.take [4, 5] (by decide)) (SC.ok _ [4, 5]) (H126.rowSCM (mem 0 rfl) [4, 5] (k := 0) rfl rfl) _ h128) ?_)
    rintro _ w129 ⟨z131, rfl, H132⟩
    have H130 : Own w (footU [bx g_a [vp_a_heap_b, i64 p_a_heap_used], row 1 vp_a_heap_b (p_a_heap_b).length (cel E8 p_a_heap_b)]) w129 [bx g_a [z131, i64 r127.2], row 1 z131 (r127.1).length (cel E8 r127.1), row 1 v124 (y118).length (cel E8 y118), bx g109 [.slice none 0 0, i64 0], bx g105 [i64 p_c_N, vp_c_More], bx g101 [vp_b_B, i64 p_b_Drawn]] := H126.back [4, 5] H132
    refine L_nil ?_
    refine C_seq ?_
    refine C_seq ?_
    refine C_region rfl ?_
    refine L_op (o_moveE (v := v124) rfl ?_)
    refine L_op (o_lenSl Try.underlying22 rfl (H130.rowIsM (mem 2 rfl)) ?_)
    refine L_op (o_moveE (v := i64 0) rfl ?_)
    refine L_nil ?_
    obtain ⟨out227, hl228, hO229⟩ := bindE hF
    refine C_cut (fun f232 w233 => f232 4 = .pointer (some ⟨g101, 0, none⟩) ∧ f232 5 = .pointer (some ⟨g105, 0, none⟩) ∧ f232 6 = .pointer (some ⟨g109, 0, none⟩) ∧ Sl (TT S (footU [bx g_a [vp_a_heap_b, i64 p_a_heap_used], row 1 vp_a_heap_b (p_a_heap_b).length (cel E8 p_a_heap_b)]) w [bx g101 [vp_b_B, i64 p_b_Drawn], bx g105 [i64 p_c_N, vp_c_More], bx g109 [.slice none 0 0, i64 0], bx g_a [z131, i64 r127.2], row 1 z131 (r127.1).length (cel E8 r127.1)]) w233 vp_b_B (p_b_B).length (cel E8 p_b_B) ∧ Sl (TT S (footU [bx g_a [vp_a_heap_b, i64 p_a_heap_used], row 1 vp_a_heap_b (p_a_heap_b).length (cel E8 p_a_heap_b)]) w [bx g101 [vp_b_B, i64 p_b_Drawn], bx g105 [i64 p_c_N, vp_c_More], bx g109 [.slice none 0 0, i64 0], bx g_a [z131, i64 r127.2], row 1 z131 (r127.1).length (cel E8 r127.1)]) w233 vp_c_More (p_c_More).length (cel E8 p_c_More) ∧ Own w (footU [bx g_a [vp_a_heap_b, i64 p_a_heap_used], row 1 vp_a_heap_b (p_a_heap_b).length (cel E8 p_a_heap_b)]) w233 [bx g101 [vp_b_B, i64 p_b_Drawn], bx g105 [i64 p_c_N, vp_c_More], bx g109 [.slice none 0 0, i64 0], bx g_a [z131, i64 r127.2], row 1 z131 (r127.1).length (cel E8 r127.1)]) ?_ ?_
    · refine C_block (C_loop (fun k f230 w231 => ∃ (x182 : List UInt8) (x184 : Int) (v181 : Value), F_hypogeumlaw08_does_l0 y118 k x182 x184 = some out227 ∧ f230 4 = .pointer (some ⟨g101, 0, none⟩) ∧ f230 5 = .pointer (some ⟨g105, 0, none⟩) ∧ f230 6 = .pointer (some ⟨g109, 0, none⟩) ∧ f230 8 = v181 ∧ f230 27 = i64 (((y118).length : Int)) ∧ f230 28 = i64 x184 ∧ Sl (TT S (footU [bx g_a [vp_a_heap_b, i64 p_a_heap_used], row 1 vp_a_heap_b (p_a_heap_b).length (cel E8 p_a_heap_b)]) w [bx g101 [vp_b_B, i64 p_b_Drawn], bx g105 [i64 p_c_N, vp_c_More], bx g109 [.slice none 0 0, i64 0], row 1 v181 (x182).length (cel E8 x182), bx g_a [z131, i64 r127.2], row 1 z131 (r127.1).length (cel E8 r127.1)]) w231 vp_b_B (p_b_B).length (cel E8 p_b_B) ∧ Sl (TT S (footU [bx g_a [vp_a_heap_b, i64 p_a_heap_used], row 1 vp_a_heap_b (p_a_heap_b).length (cel E8 p_a_heap_b)]) w [bx g101 [vp_b_B, i64 p_b_Drawn], bx g105 [i64 p_c_N, vp_c_More], bx g109 [.slice none 0 0, i64 0], row 1 v181 (x182).length (cel E8 x182), bx g_a [z131, i64 r127.2], row 1 z131 (r127.1).length (cel E8 r127.1)]) w231 vp_c_More (p_c_More).length (cel E8 p_c_More) ∧ Own w (footU [bx g_a [vp_a_heap_b, i64 p_a_heap_used], row 1 vp_a_heap_b (p_a_heap_b).length (cel E8 p_a_heap_b)]) w231 [bx g101 [vp_b_B, i64 p_b_Drawn], bx g105 [i64 p_c_N, vp_c_More], bx g109 [.slice none 0 0, i64 0], row 1 v181 (x182).length (cel E8 x182), bx g_a [z131, i64 r127.2], row 1 z131 (r127.1).length (cel E8 r127.1)]) k ?_ ?_)
      ·
        exact ⟨y118, 0, v124, hl228, rfl, rfl, rfl, rfl, rfl, rfl, (((qhp_b_B.now H130)).lessP [5, 4, 3, 2, 0, 1]), (((qhp_c_More.now H130)).lessP [5, 4, 3, 2, 0, 1]), (H130).pick [5, 4, 3, 2, 0, 1] (by decide)⟩
      ·
        rintro k f234 w235 ⟨x182, x184, v181, hF, s237, s238, s239, s240, s241, s242, q177, q179, HB236⟩
        cases k with
        | zero => cases hF
        | succ k =>
          rw [F_hypogeumlaw08_does_l0.eq_2] at hF
          refine C_seq ?_
          refine C_region rfl ?_
          refine L_op (o_lss s242 s241 ?_)
          refine L_nil ?_
          refine C_seq ?_
          refine C_cond rfl (fun hc243 => ?_) (fun hc243 => ?_)
          · replace hF := (ifT hc243).symm.trans hF
            refine C_skip ?_
            refine C_seq ?_
            refine C_block ?_
            refine C_seq ?_
            refine C_region rfl ?_
            refine L_op (o_moveE (v := i64 x184) s242 ?_)
            refine L_op (o_assignE (v := i64 x184) rfl ?_)
            refine L_nil ?_
            refine C_region rfl ?_
            refine L_op (o_moveE (v := v181) s240 ?_)
            refine L_op (o_moveE (v := i64 x184) rfl ?_)
            obtain ⟨y244, h245, hF⟩ := bindE hF
            obtain ⟨h246, h247, h248⟩ := getI_at h245
            refine L_op (o_indexSl (v := v181) Try.underlying22 sz5 rfl (HB236.fresh.rowIsM (mem 3 rfl)) rfl h246 h247 ?_)
            refine L_op (o_load Try.underlying5 rfl rfl ((HB236.fresh.rowM (mem 3 rfl)).celOne h248) ?_)
            refine L_op (o_addU8 (a := y244) (b := (1 : UInt8)) rfl rfl ?_)
            obtain ⟨y249, h250, hF⟩ := bindE hF
            obtain ⟨h251, h252, h253⟩ := getI_at h250
            refine L_op (o_indexSl (v := v181) Try.underlying22 sz5 rfl (HB236.fresh.rowIsM (mem 3 rfl)) rfl h251 h252 ?_)
            have hxs := h253
            refine L_do (o_storeCelE (E := E8) (v := v181) (xs := x182) (z' := ((y244 + (1 : UInt8)))) (u := u8 ((y244 + (1 : UInt8)))) (sz := 1) (k := 3) rfl HB236.fresh rfl rfl rfl sz5 hxs rfl ?_)
            intro w254 (H255 : Own w235 (footU [bx g101 [vp_b_B, i64 p_b_Drawn], bx g105 [i64 p_c_N, vp_c_More], bx g109 [.slice none 0 0, i64 0], row 1 v181 (x182).length (cel E8 x182), bx g_a [z131, i64 r127.2], row 1 z131 (r127.1).length (cel E8 r127.1)]) w254 [bx g101 [vp_b_B, i64 p_b_Drawn], bx g105 [i64 p_c_N, vp_c_More], bx g109 [.slice none 0 0, i64 0], row 1 v181 ((x182).set (Int.toNat x184) ((y244 + (1 : UInt8)))).length (cel E8 ((x182).set (Int.toNat x184) ((y244 + (1 : UInt8))))), bx g_a [z131, i64 r127.2], row 1 z131 (r127.1).length (cel E8 r127.1)])
            refine L_nil ?_
            refine C_region rfl ?_
            refine L_op (o_add s242 rfl ?_)
            refine L_op (o_moveE (v := i64 (w64 (x184 + 1))) rfl ?_)
            refine L_nil ?_
            exact ⟨k, Nat.lt_succ_self k, ⟨(x182).set (Int.toNat x184) ((y244 + (1 : UInt8))), w64 (x184 + 1), v181, hF, s237, s238, s239, s240, s241, rfl, (((q177.now H255)).lessP [0, 1, 2, 3, 4, 5]), (((q179.now H255)).lessP [0, 1, 2, 3, 4, 5]), (HB236.trans H255).pick [0, 1, 2, 3, 4, 5] (by decide)⟩⟩
          · replace hF := (ifF hc243).symm.trans hF
            refine C_exit ?_
            have hr256 := Option.some.inj hF
            subst hr256
            exact ⟨s237, s238, s239, (((q177.now HB236.fresh)).lessP [0, 1, 2, 4, 5]), (((q179.now HB236.fresh)).lessP [0, 1, 2, 4, 5]), (HB236.trans HB236.fresh).pick [0, 1, 2, 4, 5] (by decide)⟩
    · rintro f257 w258 ⟨s260, s261, s262, q221, q223, HB259⟩
      have hF := hO229
      refine C_seq ?_
      refine C_region rfl ?_
      refine L_op (o_loadA Try.underlying29 rfl sz29 s260 ((HB259.fresh.bxM (mem 0 rfl)).part 0 2 rfl) rfl ?_)
      refine L_op (o_fieldAddr Try.underlying31 rfl sz22 s261 rfl ?_)
      refine L_op (o_load Try.underlying22 rfl rfl ((HB259.fresh.bxM (mem 1 rfl)).one 1 rfl) ?_)
      obtain ⟨r263, h264, hF⟩ := bindE hF
      refine L_op (o_call (args := #[.agg ([vp_b_B, i64 p_b_Drawn]).toArray, vp_c_More]) rfl Try.func22 rfl (args2 rfl rfl) (hypogeumref08_Source_More_ok (S := SC [bx g101 [vp_b_B, i64 p_b_Drawn], bx g105 [i64 p_c_N, vp_c_More], bx g109 [.slice none 0 0, i64 0], bx g_a [z131, i64 r127.2], row 1 z131 (r127.1).length (cel E8 r127.1)] []) vp_b_B p_b_B p_b_Drawn vp_c_More p_c_More w258 (HB259.fresh.take [] (by decide)) (SC.ok _ []) ((q221.now HB259.fresh).sc []) ((q223.now HB259.fresh).sc []) _ h264) ?_)
      rintro _ w265 ⟨z267, rfl, H268⟩
      have H266 : Own w258 (footU [bx g101 [vp_b_B, i64 p_b_Drawn], bx g105 [i64 p_c_N, vp_c_More], bx g109 [.slice none 0 0, i64 0], bx g_a [z131, i64 r127.2], row 1 z131 (r127.1).length (cel E8 r127.1)]) w265 [row 1 z267 (r263.1).length (cel E8 r263.1), bx g101 [vp_b_B, i64 p_b_Drawn], bx g105 [i64 p_c_N, vp_c_More], bx g109 [.slice none 0 0, i64 0], bx g_a [z131, i64 r127.2], row 1 z131 (r127.1).length (cel E8 r127.1)] := HB259.fresh.back [] H268
      refine L_do (o_store (l' := [row 1 z267 (r263.1).length (cel E8 r263.1), bx g101 [vp_b_B, i64 p_b_Drawn], bx g105 [i64 p_c_N, vp_c_More], bx g109 [z267, i64 r263.2], bx g_a [z131, i64 r127.2], row 1 z131 (r127.1).length (cel E8 r127.1)]) (k := 3) (ys := [z267, i64 r263.2]) rfl H266 s262 rfl rfl sz29 (ones_cons (onec (H266.rowIsM (mem 0 rfl))) (ones_cons rfl ones_nil)) (Nat.le_of_ble_eq_true rfl) rfl rfl ?_)
      intro w270 H271
      refine L_op (o_assignE (v := .bool true) rfl ?_)
      refine L_nil ?_
      refine C_ret ?_
      have hr := Option.some.inj hF
      subst hr
      have q273 : Sl (TT S (footU [bx g_a [vp_a_heap_b, i64 p_a_heap_used], row 1 vp_a_heap_b (p_a_heap_b).length (cel E8 p_a_heap_b)]) w [bx g101 [vp_b_B, i64 p_b_Drawn], bx g105 [i64 p_c_N, vp_c_More], bx g109 [z267, i64 r263.2], bx g_a [z131, i64 r127.2], row 1 z131 (r127.1).length (cel E8 r127.1)]) w270 _ _ _ := (HB259.trans H271).freeze (k := 0) rfl
      have H274 : Own w (footU [bx g_a [vp_a_heap_b, i64 p_a_heap_used], row 1 vp_a_heap_b (p_a_heap_b).length (cel E8 p_a_heap_b)]) w270 [bx g101 [vp_b_B, i64 p_b_Drawn], bx g105 [i64 p_c_N, vp_c_More], bx g109 [z267, i64 r263.2], bx g_a [z131, i64 r127.2], row 1 z131 (r127.1).length (cel E8 r127.1)] := (HB259.trans H271).dropped [0]
      have H272 : Own w258 (footU [bx g101 [vp_b_B, i64 p_b_Drawn], bx g105 [i64 p_c_N, vp_c_More], bx g109 [.slice none 0 0, i64 0], bx g_a [z131, i64 r127.2], row 1 z131 (r127.1).length (cel E8 r127.1)]) w270 [bx g101 [vp_b_B, i64 p_b_Drawn], bx g105 [i64 p_c_N, vp_c_More], bx g109 [z267, i64 r263.2], bx g_a [z131, i64 r127.2], row 1 z131 (r127.1).length (cel E8 r127.1)] := H271.dropped [0]
      have q275 := q221.now H272
      have q276 := q223.now H272
      exact ⟨_, resR2 rfl (res_cellA Try.underlying29 rfl sz29 s262 ((H274.fresh.bxM (mem 2 rfl)).part 0 2 rfl) rfl) rfl, z267, z131, rfl, (((q273.now H274.fresh)).lessP [3, 4]), (H274.trans H274.fresh).pick [3, 4] (by decide)⟩
  · replace hF := (ifF hc113).symm.trans hF
    refine C_skip ?_
    refine C_seq ?_
    refine C_region rfl ?_
    refine L_op (o_moveE (v := .pointer (some ⟨g_a, 0, none⟩)) rfl ?_)
    refine L_op (o_fieldAddr Try.underlying31 rfl sz3 rfl rfl ?_)
    refine L_op (o_load Try.underlying3 rfl rfl ((H111.bxM (mem 1 rfl)).one 0 rfl) ?_)
    obtain ⟨r277, h278, hF⟩ := bindE hF
    refine L_op (o_call (args := #[.pointer (some ⟨g_a, 0, none⟩), i64 p_c_N]) rfl Try.func16 rfl (args2 rfl rfl) (entropy_Source_Draw_ok (S := SC [bx g109 [.slice none 0 0, i64 0], bx g105 [i64 p_c_N, vp_c_More], bx g101 [vp_b_B, i64 p_b_Drawn], bx g_a [vp_a_heap_b, i64 p_a_heap_used], row 1 vp_a_heap_b (p_a_heap_b).length (cel E8 p_a_heap_b)] [3, 4]) g_a vp_a_heap_b p_a_heap_b p_a_heap_used p_c_N w110 (H111.take [3, 4] (by decide)) (SC.ok _ [3, 4])  _ h278) ?_)
    rintro _ w279 ⟨z281, z282, rfl, H283⟩
    have H280 : Own w (footU [bx g_a [vp_a_heap_b, i64 p_a_heap_used], row 1 vp_a_heap_b (p_a_heap_b).length (cel E8 p_a_heap_b)]) w279 [row 1 z281 (r277.1).length (cel E8 r277.1), bx g_a [z282, i64 r277.2.2.2], row 1 z282 (r277.2.2.1).length (cel E8 r277.2.2.1), bx g109 [.slice none 0 0, i64 0], bx g105 [i64 p_c_N, vp_c_More], bx g101 [vp_b_B, i64 p_b_Drawn]] := H111.back [3, 4] H283
    refine L_op (o_moveE (v := .tuple #[z281, i64 r277.2.1]) rfl ?_)
    refine L_op (o_extract rfl rfl ?_)
    refine L_op (o_extract rfl rfl ?_)
    refine L_op (o_assignE (v := z281) rfl ?_)
    refine L_op (o_assignE (v := i64 r277.2.1) rfl ?_)
    refine L_nil ?_
    refine C_seq ?_
    refine C_region rfl ?_
    refine L_op (o_loadA Try.underlying29 rfl sz29 rfl ((H280.bxM (mem 5 rfl)).part 0 2 rfl) rfl ?_)
    refine L_op (o_fieldAddr Try.underlying31 rfl sz3 rfl rfl ?_)
    refine L_op (o_load Try.underlying3 rfl rfl ((H280.bxM (mem 4 rfl)).one 0 rfl) ?_)
    obtain ⟨r287, h288, hF⟩ := bindE hF
    refine L_op (o_call (args := #[.agg ([vp_b_B, i64 p_b_Drawn]).toArray, i64 p_c_N]) rfl Try.func23 rfl (args2 rfl rfl) (hypogeumref08_Source_Draw_ok (S := SR S (footU [bx g_a [vp_a_heap_b, i64 p_a_heap_used], row 1 vp_a_heap_b (p_a_heap_b).length (cel E8 p_a_heap_b)]) w w279 [row 1 z281 (r277.1).length (cel E8 r277.1), bx g_a [z282, i64 r277.2.2.2], row 1 z282 (r277.2.2.1).length (cel E8 r277.2.2.1), bx g109 [.slice none 0 0, i64 0], bx g105 [i64 p_c_N, vp_c_More], bx g101 [vp_b_B, i64 p_b_Drawn]]) vp_b_B p_b_B p_b_Drawn p_c_N w279 ((H280).take [] (by decide)) (SR.ok []) ((qhp_b_B.now H280).sr) _ h288) ?_)
    rintro _ w289 ⟨z291, z292, rfl, q293, q294, H295⟩
    have H296 : Own w (footU [bx g_a [vp_a_heap_b, i64 p_a_heap_used], row 1 vp_a_heap_b (p_a_heap_b).length (cel E8 p_a_heap_b)]) w289 [row 1 z281 (r277.1).length (cel E8 r277.1), bx g_a [z282, i64 r277.2.2.2], row 1 z282 (r277.2.2.1).length (cel E8 r277.2.2.1), bx g109 [.slice none 0 0, i64 0], bx g105 [i64 p_c_N, vp_c_More], bx g101 [vp_b_B, i64 p_b_Drawn]] := (H280).back [] H295
    have H297 : Own w (footU [bx g_a [vp_a_heap_b, i64 p_a_heap_used], row 1 vp_a_heap_b (p_a_heap_b).length (cel E8 p_a_heap_b)]) w289 [row 1 z281 (r277.1).length (cel E8 r277.1), bx g_a [z282, i64 r277.2.2.2], row 1 z282 (r277.2.2.1).length (cel E8 r277.2.2.1), bx g109 [.slice none 0 0, i64 0], bx g105 [i64 p_c_N, vp_c_More], bx g101 [vp_b_B, i64 p_b_Drawn]] := H280.back [] H295
    have q298 := qhp_b_B.now H297
    have q299 := qhp_c_More.now H297
    have q300 : Sl (TT S (footU [bx g_a [vp_a_heap_b, i64 p_a_heap_used], row 1 vp_a_heap_b (p_a_heap_b).length (cel E8 p_a_heap_b)]) w [row 1 z281 (r277.1).length (cel E8 r277.1), bx g_a [z282, i64 r277.2.2.2], row 1 z282 (r277.2.2.1).length (cel E8 r277.2.2.1), bx g109 [.slice none 0 0, i64 0], bx g105 [i64 p_c_N, vp_c_More], bx g101 [vp_b_B, i64 p_b_Drawn]]) _ _ _ _ := q293.res (ks := []) (H280) H295
    have q301 : Sl (TT S (footU [bx g_a [vp_a_heap_b, i64 p_a_heap_used], row 1 vp_a_heap_b (p_a_heap_b).length (cel E8 p_a_heap_b)]) w [row 1 z281 (r277.1).length (cel E8 r277.1), bx g_a [z282, i64 r277.2.2.2], row 1 z282 (r277.2.2.1).length (cel E8 r277.2.2.1), bx g109 [.slice none 0 0, i64 0], bx g105 [i64 p_c_N, vp_c_More], bx g101 [vp_b_B, i64 p_b_Drawn]]) _ _ _ _ := q294.res (ks := []) (H280) H295
    refine L_op (o_moveE (v := .tuple #[.agg ([z291, i64 r287.2.1]).toArray, z292, i64 r287.2.2.2]) rfl ?_)
    refine L_op (o_extract rfl rfl ?_)
    refine L_op (o_extract rfl rfl ?_)
    refine L_op (o_extract rfl rfl ?_)
    refine L_do (o_store (l' := [row 1 z281 (r277.1).length (cel E8 r277.1), bx g_a [z282, i64 r277.2.2.2], row 1 z282 (r277.2.2.1).length (cel E8 r277.2.2.1), bx g109 [.slice none 0 0, i64 0], bx g105 [i64 p_c_N, vp_c_More], bx g101 [z291, i64 r287.2.1]]) (k := 5) (ys := [z291, i64 r287.2.1]) rfl H296.fresh rfl rfl rfl sz29 (ones_cons (onec q300.is) (ones_cons rfl ones_nil)) (Nat.le_of_ble_eq_true rfl) rfl rfl ?_)
    intro w302 H303
    refine L_op (o_assignE (v := z292) rfl ?_)
    refine L_op (o_assignE (v := i64 r287.2.2.2) rfl ?_)
    refine L_nil ?_
    refine C_seqG 14 ((decide (r277.1 = r287.2.2.1) && decide (r277.2.1 = r287.2.2.2))) [57, 58, 59, 60, 61, 62, 63, 64, 65, 66, 14] ?_ ?_
    · refine C_region rfl ?_
      refine L_op (o_moveE (v := z281) rfl ?_)
      refine L_op (o_bytesStr Try.underlying22 Try.underlying9 Try.underlying5 rfl (H303.rowM (mem 0 rfl)) ?_)
      refine L_op (o_moveE (v := z292) rfl ?_)
      refine L_op (o_bytesStr Try.underlying22 Try.underlying9 Try.underlying5 rfl ((q301.now H303)) ?_)
      refine L_op (o_eqlStr rfl rfl ?_)
      refine L_op (o_moveE (v := .bool (decide (r277.1 = r287.2.2.1))) rfl ?_)
      rcases Bool.eq_false_or_eq_true (decide (r277.1 = r287.2.2.1)) with hc304 | hc304
      ·
        refine L_on rfl (congrArg Value.bool hc304) (o_moveE (v := i64 r277.2.1) rfl ?_)
        refine L_on rfl (congrArg Value.bool hc304) (o_moveE (v := i64 r287.2.2.2) rfl ?_)
        refine L_on rfl (congrArg Value.bool hc304) (o_eql rfl rfl ?_)
        refine L_op (o_pickE (v := .bool (decide (r277.2.1 = r287.2.2.2))) (congrArg Value.bool hc304) rfl ?_)
        refine L_op (o_assignE (v := .bool (decide (r277.2.1 = r287.2.2.2))) rfl ?_)
        refine L_nil ⟨rfl, congrArg Value.bool (by simp [hc304]), (same_upd (same_upd (same_upd (same_upd (same_upd (same_upd (same_upd (same_upd (same_upd (same_upd (same_upd (fun _ _ => rfl) rfl) rfl) rfl) rfl) rfl) rfl) rfl) rfl) rfl) rfl) rfl)⟩
      ·
        refine L_off rfl (congrArg Value.bool hc304) ?_
        refine L_off rfl (congrArg Value.bool hc304) ?_
        refine L_off rfl (congrArg Value.bool hc304) ?_
        refine L_op (o_pickE (v := .bool false) (congrArg Value.bool hc304) rfl ?_)
        refine L_op (o_assignE (v := .bool false) rfl ?_)
        refine L_nil ⟨rfl, congrArg Value.bool (by simp [hc304]), (same_upd (same_upd (same_upd (same_upd (same_upd (same_upd (same_upd (same_upd (same_upd (same_upd (same_upd (fun _ _ => rfl) rfl) rfl) rfl) rfl) rfl) rfl) rfl) rfl) rfl) rfl) rfl)⟩
    intro f305 hd306 hs307
    refine C_seq ?_
    refine C_seq ?_
    refine C_region rfl ?_
    refine L_op (o_moveE (v := z281) (hs307 10 rfl) ?_)
    refine L_op (o_lenSl Try.underlying22 rfl (H303.rowIsM (mem 0 rfl)) ?_)
    refine L_op (o_moveE (v := i64 0) rfl ?_)
    refine L_nil ?_
    obtain ⟨out390, hl391, hO392⟩ := bindE hF
    refine C_cut (fun f395 w396 => f395 4 = .pointer (some ⟨g101, 0, none⟩) ∧ f395 6 = .pointer (some ⟨g109, 0, none⟩) ∧ f395 14 = .bool ((decide (r277.1 = r287.2.2.1) && decide (r277.2.1 = r287.2.2.2))) ∧ Sl (TT S (footU [bx g_a [vp_a_heap_b, i64 p_a_heap_used], row 1 vp_a_heap_b (p_a_heap_b).length (cel E8 p_a_heap_b)]) w [bx g101 [z291, i64 r287.2.1], bx g109 [.slice none 0 0, i64 0], bx g_a [z282, i64 r277.2.2.2], row 1 z282 (r277.2.2.1).length (cel E8 r277.2.2.1)]) w396 z291 (r287.1).length (cel E8 r287.1) ∧ Own w (footU [bx g_a [vp_a_heap_b, i64 p_a_heap_used], row 1 vp_a_heap_b (p_a_heap_b).length (cel E8 p_a_heap_b)]) w396 [bx g101 [z291, i64 r287.2.1], bx g109 [.slice none 0 0, i64 0], bx g_a [z282, i64 r277.2.2.2], row 1 z282 (r277.2.2.1).length (cel E8 r277.2.2.1)]) ?_ ?_
    · refine C_block (C_loop (fun k f393 w394 => ∃ (x349 : List UInt8) (x351 : Int) (v348 : Value), F_hypogeumlaw08_does_l1 r277 k x349 x351 = some out390 ∧ f393 4 = .pointer (some ⟨g101, 0, none⟩) ∧ f393 6 = .pointer (some ⟨g109, 0, none⟩) ∧ f393 10 = v348 ∧ f393 14 = .bool ((decide (r277.1 = r287.2.2.1) && decide (r277.2.1 = r287.2.2.2))) ∧ f393 68 = i64 (((r277.1).length : Int)) ∧ f393 69 = i64 x351 ∧ Sl (TT S (footU [bx g_a [vp_a_heap_b, i64 p_a_heap_used], row 1 vp_a_heap_b (p_a_heap_b).length (cel E8 p_a_heap_b)]) w [bx g101 [z291, i64 r287.2.1], bx g109 [.slice none 0 0, i64 0], row 1 v348 (x349).length (cel E8 x349), bx g_a [z282, i64 r277.2.2.2], row 1 z282 (r277.2.2.1).length (cel E8 r277.2.2.1)]) w394 z291 (r287.1).length (cel E8 r287.1) ∧ Own w (footU [bx g_a [vp_a_heap_b, i64 p_a_heap_used], row 1 vp_a_heap_b (p_a_heap_b).length (cel E8 p_a_heap_b)]) w394 [bx g101 [z291, i64 r287.2.1], bx g109 [.slice none 0 0, i64 0], row 1 v348 (x349).length (cel E8 x349), bx g_a [z282, i64 r277.2.2.2], row 1 z282 (r277.2.2.1).length (cel E8 r277.2.2.1)]) k ?_ ?_)
      ·
        exact ⟨r277.1, 0, z281, hl391, (hs307 4 rfl), (hs307 6 rfl), (hs307 10 rfl), hd306, rfl, rfl, (((q300.now H303)).lessP [5, 3, 0, 1, 2]), (H296.trans H303).pick [5, 3, 0, 1, 2] (by decide)⟩
      ·
        rintro k f397 w398 ⟨x349, x351, v348, hF, s400, s401, s402, s403, s404, s405, q346, HB399⟩
        cases k with
        | zero => cases hF
        | succ k =>
          rw [F_hypogeumlaw08_does_l1.eq_2] at hF
          refine C_seq ?_
          refine C_region rfl ?_
          refine L_op (o_lss s405 s404 ?_)
          refine L_nil ?_
          refine C_seq ?_
          refine C_cond rfl (fun hc406 => ?_) (fun hc406 => ?_)
          · replace hF := (ifT hc406).symm.trans hF
            refine C_skip ?_
            refine C_seq ?_
            refine C_block ?_
            refine C_seq ?_
            refine C_region rfl ?_
            refine L_op (o_moveE (v := i64 x351) s405 ?_)
            refine L_op (o_assignE (v := i64 x351) rfl ?_)
            refine L_nil ?_
            refine C_region rfl ?_
            refine L_op (o_moveE (v := v348) s402 ?_)
            refine L_op (o_moveE (v := i64 x351) rfl ?_)
            obtain ⟨y407, h408, hF⟩ := bindE hF
            obtain ⟨h409, h410, h411⟩ := getI_at h408
            refine L_op (o_indexSl (v := v348) Try.underlying22 sz5 rfl (HB399.fresh.rowIsM (mem 2 rfl)) rfl h409 h410 ?_)
            refine L_op (o_load Try.underlying5 rfl rfl ((HB399.fresh.rowM (mem 2 rfl)).celOne h411) ?_)
            refine L_op (o_addU8 (a := y407) (b := (1 : UInt8)) rfl rfl ?_)
            obtain ⟨y412, h413, hF⟩ := bindE hF
            obtain ⟨h414, h415, h416⟩ := getI_at h413
            refine L_op (o_indexSl (v := v348) Try.underlying22 sz5 rfl (HB399.fresh.rowIsM (mem 2 rfl)) rfl h414 h415 ?_)
            have hxs := h416
            refine L_do (o_storeCelE (E := E8) (v := v348) (xs := x349) (z' := ((y407 + (1 : UInt8)))) (u := u8 ((y407 + (1 : UInt8)))) (sz := 1) (k := 2) rfl HB399.fresh rfl rfl rfl sz5 hxs rfl ?_)
            intro w417 (H418 : Own w398 (footU [bx g101 [z291, i64 r287.2.1], bx g109 [.slice none 0 0, i64 0], row 1 v348 (x349).length (cel E8 x349), bx g_a [z282, i64 r277.2.2.2], row 1 z282 (r277.2.2.1).length (cel E8 r277.2.2.1)]) w417 [bx g101 [z291, i64 r287.2.1], bx g109 [.slice none 0 0, i64 0], row 1 v348 ((x349).set (Int.toNat x351) ((y407 + (1 : UInt8)))).length (cel E8 ((x349).set (Int.toNat x351) ((y407 + (1 : UInt8))))), bx g_a [z282, i64 r277.2.2.2], row 1 z282 (r277.2.2.1).length (cel E8 r277.2.2.1)])
            refine L_nil ?_
            refine C_region rfl ?_
            refine L_op (o_add s405 rfl ?_)
            refine L_op (o_moveE (v := i64 (w64 (x351 + 1))) rfl ?_)
            refine L_nil ?_
            exact ⟨k, Nat.lt_succ_self k, ⟨(x349).set (Int.toNat x351) ((y407 + (1 : UInt8))), w64 (x351 + 1), v348, hF, s400, s401, s402, s403, s404, rfl, (((q346.now H418)).lessP [0, 1, 2, 3, 4]), (HB399.trans H418).pick [0, 1, 2, 3, 4] (by decide)⟩⟩
          · replace hF := (ifF hc406).symm.trans hF
            refine C_exit ?_
            have hr419 := Option.some.inj hF
            subst hr419
            exact ⟨s400, s401, s403, (((q346.now HB399.fresh)).lessP [0, 1, 3, 4]), (HB399.trans HB399.fresh).pick [0, 1, 3, 4] (by decide)⟩
    · rintro f420 w421 ⟨s423, s424, s425, q386, HB422⟩
      have hF := hO392
      refine C_seq ?_
      refine C_region rfl ?_
      refine L_op (o_loadA Try.underlying29 rfl sz29 s423 ((HB422.fresh.bxM (mem 0 rfl)).part 0 2 rfl) rfl ?_)
      refine L_op (o_moveE (v := .bool ((decide (r277.1 = r287.2.2.1) && decide (r277.2.1 = r287.2.2.2)))) s425 ?_)
      refine L_do (o_store (l' := [bx g101 [z291, i64 r287.2.1], bx g109 [z291, i64 r287.2.1], bx g_a [z282, i64 r277.2.2.2], row 1 z282 (r277.2.2.1).length (cel E8 r277.2.2.1)]) (k := 1) (ys := [z291, i64 r287.2.1]) rfl HB422.fresh s424 rfl rfl sz29 (ones_cons (onec q386.is) (ones_cons rfl ones_nil)) (Nat.le_of_ble_eq_true rfl) rfl rfl ?_)
      intro w426 H427
      refine L_op (o_assignE (v := .bool ((decide (r277.1 = r287.2.2.1) && decide (r277.2.1 = r287.2.2.2)))) rfl ?_)
      refine L_nil ?_
      refine C_ret ?_
      have hr := Option.some.inj hF
      subst hr
      exact ⟨_, resR2 rfl (res_cellA Try.underlying29 rfl sz29 s424 ((H427.bxM (mem 1 rfl)).part 0 2 rfl) rfl) rfl, z291, z282, rfl, (((q386.now H427)).lessP [2, 3]), (HB422.trans H427).pick [2, 3] (by decide)⟩
def F_entropy_Source_Left (p_a_heap_b : List UInt8) (p_a_heap_used : Int) : Option (Int) :=
  (F_entropy_heap_rest p_a_heap_b p_a_heap_used).bind fun r102 =>
  some r102
theorem entropy_Source_Left_ok {S : Nat → Prop} (g_a : Nat) (vp_a_heap_b : Value) (p_a_heap_b : List UInt8) (p_a_heap_used : Int) (w : World) (H0 : Own w (footU []) w []) (hS : ∀ b, S b → ¬ footU [] b) (hp_a : AtS S w ⟨g_a, 0, none⟩ [vp_a_heap_b, i64 p_a_heap_used]) (hp_a_heap_b : Sl S w vp_a_heap_b p_a_heap_b.length (cel E8 p_a_heap_b)) (r : Int) (hF : F_entropy_Source_Left p_a_heap_b p_a_heap_used = some r) :
    Calls Try.prog 13 #[.pointer (some ⟨g_a, 0, none⟩)] w (Ret fun v w' => v = i64 r ∧ Own w (footU []) w' []) := by
  have qhp_a := hp_a.in (o := (footU [])) (w0 := w) (l := []) hS
  have qhp_a_heap_b := hp_a_heap_b.in (o := (footU [])) (w0 := w) (l := []) hS
  refine calls_C Try.func13 rfl Try.ntmps13 rfl ?_
  unfold F_entropy_Source_Left at hF
  refine C_seq ?_
  refine C_region rfl ?_
  refine L_op (o_assignE (v := i64 0) rfl ?_)
  refine L_nil ?_
  refine C_seq ?_
  refine C_seq ?_
  refine C_region rfl ?_
  refine L_op (o_moveE (v := .pointer (some ⟨g_a, 0, none⟩)) rfl ?_)
  refine L_op (o_eqPtrNil Try.underlying26 rfl rfl ?_)
  refine L_nil ?_
  refine C_cond (b := false) rfl (fun hc101 => ?_) (fun hc101 => ?_)
  · cases hc101
  refine C_skip ?_
  refine C_seq ?_
  refine C_region rfl ?_
  refine L_op (o_moveE (v := .pointer (some ⟨g_a, 0, none⟩)) rfl ?_)
  refine L_op (o_nilCheck rfl ?_)
  refine L_op (o_fieldAddr Try.underlying56 rfl sz54 rfl rfl ?_)
  obtain ⟨r102, h103, hF⟩ := bindE hF
  refine L_op (o_call (args := #[.pointer (some ⟨g_a, 0, none⟩)]) rfl Try.func24 rfl (args1 rfl) (entropy_heap_rest_ok (S := SC [] []) g_a vp_a_heap_b p_a_heap_b p_a_heap_used w (H0.take [] (by decide)) (SC.ok _ []) (((qhp_a).now H0).sc []) ((qhp_a_heap_b.now H0).sc []) _ h103) ?_)
  rintro _ w104 ⟨rfl, H106⟩
  have H105 : Own w (footU []) w104 [] := H0.back [] H106
  refine L_op (o_assignE (v := i64 r102) rfl ?_)
  refine L_nil ?_
  refine C_ret ?_
  have hr := Option.some.inj hF
  subst hr
  exact ⟨_, resR1 rfl rfl, rfl, (H105).pick [] (by decide)⟩
def F_hypogeumlaw08_awake : Option (Bool) :=
  (F_entropy_New [(1 : UInt8), (2 : UInt8), (3 : UInt8)]).bind fun r105 =>
  (F_entropy_Source_Draw r105.1 r105.2 2).bind fun r114 =>
  (F_entropy_Source_Draw r114.2.2.1 r114.2.2.2 2).bind fun r124 =>
  if (decide ((((r114.1).length : Int)) = 2)) = true then
  (getI r114.1 1).bind fun y135 =>
  if (decide (y135 = (2 : UInt8))) = true then
  if (decide (r114.2.1 = 0)) = true then
  if (decide (r124.2.1 = 9)) = true then
  (F_entropy_Source_Left r124.2.2.1 r124.2.2.2).bind fun r143 =>
  some (decide (r143 = 1))
  else
  some false
  else
  some false
  else
  some false
  else
  some false
theorem hypogeumlaw08_awake_ok {S : Nat → Prop}  (w : World) (H0 : Own w (footU []) w []) (hS : ∀ b, S b → ¬ footU [] b)  (r : Bool) (hF : F_hypogeumlaw08_awake = some r) :
    Calls Try.prog 10 #[] w (Ret fun v w' => v = .bool r ∧ Own w (footU []) w' []) := by
  refine calls_C Try.func10 rfl Try.ntmps10 rfl ?_
  unfold F_hypogeumlaw08_awake at hF
  refine C_seq ?_
  refine C_region rfl ?_
  refine L_op (o_assignE (v := .bool false) rfl ?_)
  refine L_nil ?_
  refine C_seq ?_
  refine C_region rfl ?_
  refine L_op (o_sliceLit (E := E8) (xs := [(1 : UInt8), (2 : UInt8), (3 : UInt8)]) (vs := [(0, [u8 (1 : UInt8)]), (1, [u8 (2 : UInt8)]), (2, [u8 (3 : UInt8)])]) el22 zr5 rfl rfl rfl rfl ⟨rfl, pc rfl rfl, rfl, pc rfl rfl, rfl, pc rfl rfl, trivial⟩ rfl H0 ?_)
  intro v101 w102 H103
  obtain ⟨r105, h106, hF⟩ := bindE hF
  refine L_op (o_call (args := #[v101]) rfl Try.func11 rfl (args1 rfl) (entropy_New_ok (S := SC [row 1 v101 ([(1 : UInt8), (2 : UInt8), (3 : UInt8)]).length (cel E8 [(1 : UInt8), (2 : UInt8), (3 : UInt8)])] []) v101 [(1 : UInt8), (2 : UInt8), (3 : UInt8)] w102 (H103.take [] (by decide)) (SC.ok _ []) (H103.rowSCM (mem 0 rfl) [] (k := 0) rfl rfl) _ h106) ?_)
  rintro _ w107 ⟨z109, z110, rfl, H111⟩
  have H108 : Own w (footU []) w107 [bx z109 [z110, i64 r105.2], row 1 z110 (r105.1).length (cel E8 r105.1), row 1 v101 ([(1 : UInt8), (2 : UInt8), (3 : UInt8)]).length (cel E8 [(1 : UInt8), (2 : UInt8), (3 : UInt8)])] := H103.back [] H111
  refine L_op (o_assignE (v := .pointer (some ⟨z109, 0, none⟩)) rfl ?_)
  refine L_nil ?_
  refine C_seq ?_
  refine C_region rfl ?_
  refine L_op (o_moveE (v := .pointer (some ⟨z109, 0, none⟩)) rfl ?_)
  obtain ⟨r114, h115, hF⟩ := bindE hF
  refine L_op (o_call (args := #[.pointer (some ⟨z109, 0, none⟩), i64 2]) rfl Try.func16 rfl (args2 rfl rfl) (entropy_Source_Draw_ok (S := SC [bx z109 [z110, i64 r105.2], row 1 z110 (r105.1).length (cel E8 r105.1), row 1 v101 ([(1 : UInt8), (2 : UInt8), (3 : UInt8)]).length (cel E8 [(1 : UInt8), (2 : UInt8), (3 : UInt8)])] [0, 1]) z109 z110 r105.1 r105.2 2 w107 (H108.take [0, 1] (by decide)) (SC.ok _ [0, 1])  _ h115) ?_)
  rintro _ w116 ⟨z118, z119, rfl, H120⟩
  have H117 : Own w (footU []) w116 [row 1 z118 (r114.1).length (cel E8 r114.1), bx z109 [z119, i64 r114.2.2.2], row 1 z119 (r114.2.2.1).length (cel E8 r114.2.2.1), row 1 v101 ([(1 : UInt8), (2 : UInt8), (3 : UInt8)]).length (cel E8 [(1 : UInt8), (2 : UInt8), (3 : UInt8)])] := H108.back [0, 1] H120
  refine L_op (o_moveE (v := .tuple #[z118, i64 r114.2.1]) rfl ?_)
  refine L_op (o_extract rfl rfl ?_)
  refine L_op (o_extract rfl rfl ?_)
  refine L_op (o_assignE (v := z118) rfl ?_)
  refine L_op (o_assignE (v := i64 r114.2.1) rfl ?_)
  refine L_nil ?_
  refine C_seq ?_
  refine C_region rfl ?_
  refine L_op (o_moveE (v := .pointer (some ⟨z109, 0, none⟩)) rfl ?_)
  obtain ⟨r124, h125, hF⟩ := bindE hF
  refine L_op (o_call (args := #[.pointer (some ⟨z109, 0, none⟩), i64 2]) rfl Try.func16 rfl (args2 rfl rfl) (entropy_Source_Draw_ok (S := SC [row 1 z118 (r114.1).length (cel E8 r114.1), bx z109 [z119, i64 r114.2.2.2], row 1 z119 (r114.2.2.1).length (cel E8 r114.2.2.1), row 1 v101 ([(1 : UInt8), (2 : UInt8), (3 : UInt8)]).length (cel E8 [(1 : UInt8), (2 : UInt8), (3 : UInt8)])] [1, 2]) z109 z119 r114.2.2.1 r114.2.2.2 2 w116 (H117.take [1, 2] (by decide)) (SC.ok _ [1, 2])  _ h125) ?_)
  rintro _ w126 ⟨z128, z129, rfl, H130⟩
  have H127 : Own w (footU []) w126 [row 1 z128 (r124.1).length (cel E8 r124.1), bx z109 [z129, i64 r124.2.2.2], row 1 z129 (r124.2.2.1).length (cel E8 r124.2.2.1), row 1 z118 (r114.1).length (cel E8 r114.1), row 1 v101 ([(1 : UInt8), (2 : UInt8), (3 : UInt8)]).length (cel E8 [(1 : UInt8), (2 : UInt8), (3 : UInt8)])] := H117.back [1, 2] H130
  refine L_op (o_moveE (v := .tuple #[z128, i64 r124.2.1]) rfl ?_)
  refine L_op (o_extract rfl rfl ?_)
  refine L_op (o_extract rfl rfl ?_)
  refine L_op (o_assignE (v := z128) rfl ?_)
  refine L_op (o_assignE (v := i64 r124.2.1) rfl ?_)
  refine L_nil ?_
  refine C_seq ?_
  refine C_region rfl ?_
  refine L_op (o_moveE (v := z118) rfl ?_)
  refine L_op (o_lenSl Try.underlying22 rfl (H127.rowIsM (mem 3 rfl)) ?_)
  refine L_op (o_eql rfl rfl ?_)
  refine L_op (o_moveE (v := .bool (decide ((((r114.1).length : Int)) = 2))) rfl ?_)
  rcases Bool.eq_false_or_eq_true (decide ((((r114.1).length : Int)) = 2)) with hc134 | hc134
  · replace hF := (ifT hc134).symm.trans hF
    refine L_on rfl (congrArg Value.bool hc134) (o_moveE (v := z118) rfl ?_)
    obtain ⟨y135, h136, hF⟩ := bindE hF
    obtain ⟨h137, h138, h139⟩ := getI_at h136
    refine L_on rfl (congrArg Value.bool hc134) (o_indexSl (v := z118) Try.underlying22 sz5 rfl (H127.rowIsM (mem 3 rfl)) rfl h137 h138 ?_)
    refine L_on rfl (congrArg Value.bool hc134) (o_load Try.underlying5 rfl rfl ((H127.rowM (mem 3 rfl)).celOne h139) ?_)
    refine L_on rfl (congrArg Value.bool hc134) (o_eqlU8 (a := y135) (b := (2 : UInt8)) rfl rfl ?_)
    refine L_op (o_pickE (v := .bool (decide (y135 = (2 : UInt8)))) (congrArg Value.bool hc134) rfl ?_)
    refine L_op (o_moveE (v := .bool (decide (y135 = (2 : UInt8)))) rfl ?_)
    rcases Bool.eq_false_or_eq_true (decide (y135 = (2 : UInt8))) with hc140 | hc140
    · replace hF := (ifT hc140).symm.trans hF
      refine L_on rfl (congrArg Value.bool hc140) (o_moveE (v := i64 r114.2.1) rfl ?_)
      refine L_on rfl (congrArg Value.bool hc140) (o_eql rfl rfl ?_)
      refine L_op (o_pickE (v := .bool (decide (r114.2.1 = 0))) (congrArg Value.bool hc140) rfl ?_)
      refine L_op (o_moveE (v := .bool (decide (r114.2.1 = 0))) rfl ?_)
      rcases Bool.eq_false_or_eq_true (decide (r114.2.1 = 0)) with hc141 | hc141
      · replace hF := (ifT hc141).symm.trans hF
        refine L_on rfl (congrArg Value.bool hc141) (o_moveE (v := i64 r124.2.1) rfl ?_)
        refine L_on rfl (congrArg Value.bool hc141) (o_eql rfl rfl ?_)
        refine L_op (o_pickE (v := .bool (decide (r124.2.1 = 9))) (congrArg Value.bool hc141) rfl ?_)
        refine L_op (o_moveE (v := .bool (decide (r124.2.1 = 9))) rfl ?_)
        rcases Bool.eq_false_or_eq_true (decide (r124.2.1 = 9)) with hc142 | hc142
        · replace hF := (ifT hc142).symm.trans hF
          refine L_on rfl (congrArg Value.bool hc142) (o_moveE (v := .pointer (some ⟨z109, 0, none⟩)) rfl ?_)
          obtain ⟨r143, h144, hF⟩ := bindE hF
          refine L_on rfl (congrArg Value.bool hc142) (o_call (args := #[.pointer (some ⟨z109, 0, none⟩)]) rfl Try.func13 rfl (args1 rfl) (entropy_Source_Left_ok (S := SC [row 1 z128 (r124.1).length (cel E8 r124.1), bx z109 [z129, i64 r124.2.2.2], row 1 z129 (r124.2.2.1).length (cel E8 r124.2.2.1), row 1 z118 (r114.1).length (cel E8 r114.1), row 1 v101 ([(1 : UInt8), (2 : UInt8), (3 : UInt8)]).length (cel E8 [(1 : UInt8), (2 : UInt8), (3 : UInt8)])] []) z109 z129 r124.2.2.1 r124.2.2.2 w126 (H127.take [] (by decide)) (SC.ok _ []) ((H127.bxSCM (mem 1 rfl) [] (k := 1) rfl rfl)) (H127.rowSCM (mem 2 rfl) [] (k := 2) rfl rfl) _ h144) ?_)
          rintro _ w145 ⟨rfl, H147⟩
          have H146 : Own w (footU []) w145 [row 1 z128 (r124.1).length (cel E8 r124.1), bx z109 [z129, i64 r124.2.2.2], row 1 z129 (r124.2.2.1).length (cel E8 r124.2.2.1), row 1 z118 (r114.1).length (cel E8 r114.1), row 1 v101 ([(1 : UInt8), (2 : UInt8), (3 : UInt8)]).length (cel E8 [(1 : UInt8), (2 : UInt8), (3 : UInt8)])] := H127.back [] H147
          refine L_on rfl (congrArg Value.bool hc142) (o_eql rfl rfl ?_)
          refine L_op (o_pickE (v := .bool (decide (r143 = 1))) (congrArg Value.bool hc142) rfl ?_)
          refine L_op (o_assignE (v := .bool (decide (r143 = 1))) rfl ?_)
          refine L_nil ?_
          refine C_ret ?_
          have hr := Option.some.inj hF
          subst hr
          exact ⟨_, resR1 rfl rfl, rfl, (H146).pick [] (by decide)⟩
        · replace hF := (ifF hc142).symm.trans hF
          refine L_off rfl (congrArg Value.bool hc142) ?_
          refine L_off rfl (congrArg Value.bool hc142) ?_
          refine L_off rfl (congrArg Value.bool hc142) ?_
          refine L_op (o_pickE (v := .bool false) (congrArg Value.bool hc142) rfl ?_)
          refine L_op (o_assignE (v := .bool false) rfl ?_)
          refine L_nil ?_
          refine C_ret ?_
          have hr := Option.some.inj hF
          subst hr
          exact ⟨_, resR1 rfl rfl, rfl, (H127).pick [] (by decide)⟩
      · replace hF := (ifF hc141).symm.trans hF
        refine L_off rfl (congrArg Value.bool hc141) ?_
        refine L_off rfl (congrArg Value.bool hc141) ?_
        refine L_op (o_pickE (v := .bool false) (congrArg Value.bool hc141) rfl ?_)
        refine L_op (o_moveE (v := .bool false) rfl ?_)
        refine L_off rfl rfl ?_
        refine L_off rfl rfl ?_
        refine L_off rfl rfl ?_
        refine L_op (o_pickE (v := .bool false) rfl rfl ?_)
        refine L_op (o_assignE (v := .bool false) rfl ?_)
        refine L_nil ?_
        refine C_ret ?_
        have hr := Option.some.inj hF
        subst hr
        exact ⟨_, resR1 rfl rfl, rfl, (H127).pick [] (by decide)⟩
    · replace hF := (ifF hc140).symm.trans hF
      refine L_off rfl (congrArg Value.bool hc140) ?_
      refine L_off rfl (congrArg Value.bool hc140) ?_
      refine L_op (o_pickE (v := .bool false) (congrArg Value.bool hc140) rfl ?_)
      refine L_op (o_moveE (v := .bool false) rfl ?_)
      refine L_off rfl rfl ?_
      refine L_off rfl rfl ?_
      refine L_op (o_pickE (v := .bool false) rfl rfl ?_)
      refine L_op (o_moveE (v := .bool false) rfl ?_)
      refine L_off rfl rfl ?_
      refine L_off rfl rfl ?_
      refine L_off rfl rfl ?_
      refine L_op (o_pickE (v := .bool false) rfl rfl ?_)
      refine L_op (o_assignE (v := .bool false) rfl ?_)
      refine L_nil ?_
      refine C_ret ?_
      have hr := Option.some.inj hF
      subst hr
      exact ⟨_, resR1 rfl rfl, rfl, (H127).pick [] (by decide)⟩
  · replace hF := (ifF hc134).symm.trans hF
    refine L_off rfl (congrArg Value.bool hc134) ?_
    refine L_off rfl (congrArg Value.bool hc134) ?_
    refine L_off rfl (congrArg Value.bool hc134) ?_
    refine L_off rfl (congrArg Value.bool hc134) ?_
    refine L_op (o_pickE (v := .bool false) (congrArg Value.bool hc134) rfl ?_)
    refine L_op (o_moveE (v := .bool false) rfl ?_)
    refine L_off rfl rfl ?_
    refine L_off rfl rfl ?_
    refine L_op (o_pickE (v := .bool false) rfl rfl ?_)
    refine L_op (o_moveE (v := .bool false) rfl ?_)
    refine L_off rfl rfl ?_
    refine L_off rfl rfl ?_
    refine L_op (o_pickE (v := .bool false) rfl rfl ?_)
    refine L_op (o_moveE (v := .bool false) rfl ?_)
    refine L_off rfl rfl ?_
    refine L_off rfl rfl ?_
    refine L_off rfl rfl ?_
    refine L_op (o_pickE (v := .bool false) rfl rfl ?_)
    refine L_op (o_assignE (v := .bool false) rfl ?_)
    refine L_nil ?_
    refine C_ret ?_
    have hr := Option.some.inj hF
    subst hr
    exact ⟨_, resR1 rfl rfl, rfl, (H127).pick [] (by decide)⟩
def F_entropy_Source_Drawn (p_a_heap_b : List UInt8) (p_a_heap_used : Int) : Option (Int) :=
  some p_a_heap_used
theorem entropy_Source_Drawn_ok {S : Nat → Prop} (g_a : Nat) (vp_a_heap_b : Value) (p_a_heap_b : List UInt8) (p_a_heap_used : Int) (w : World) (H0 : Own w (footU []) w []) (hS : ∀ b, S b → ¬ footU [] b) (hp_a : AtS S w ⟨g_a, 0, none⟩ [vp_a_heap_b, i64 p_a_heap_used]) (hp_a_heap_b : Sl S w vp_a_heap_b p_a_heap_b.length (cel E8 p_a_heap_b)) (r : Int) (hF : F_entropy_Source_Drawn p_a_heap_b p_a_heap_used = some r) :
    Calls Try.prog 14 #[.pointer (some ⟨g_a, 0, none⟩)] w (Ret fun v w' => v = i64 r ∧ Own w (footU []) w' []) := by
  have qhp_a := hp_a.in (o := (footU [])) (w0 := w) (l := []) hS
  have qhp_a_heap_b := hp_a_heap_b.in (o := (footU [])) (w0 := w) (l := []) hS
  refine calls_C Try.func14 rfl Try.ntmps14 rfl ?_
  unfold F_entropy_Source_Drawn at hF
  refine C_seq ?_
  refine C_region rfl ?_
  refine L_op (o_assignE (v := i64 0) rfl ?_)
  refine L_nil ?_
  refine C_seq ?_
  refine C_seq ?_
  refine C_region rfl ?_
  refine L_op (o_moveE (v := .pointer (some ⟨g_a, 0, none⟩)) rfl ?_)
  refine L_op (o_eqPtrNil Try.underlying26 rfl rfl ?_)
  refine L_nil ?_
  refine C_cond (b := false) rfl (fun hc101 => ?_) (fun hc101 => ?_)
  · cases hc101
  refine C_skip ?_
  refine C_seq ?_
  refine C_region rfl ?_
  refine L_op (o_moveE (v := .pointer (some ⟨g_a, 0, none⟩)) rfl ?_)
  refine L_op (o_nilCheck rfl ?_)
  refine L_op (o_fieldAddr Try.underlying56 rfl sz54 rfl rfl ?_)
  refine L_op (o_fieldAddr Try.underlying54 rfl sz3 rfl rfl ?_)
  refine L_op (o_load Try.underlying3 rfl rfl (((qhp_a).now H0).one 1 rfl) ?_)
  refine L_op (o_assignE (v := i64 p_a_heap_used) rfl ?_)
  refine L_nil ?_
  refine C_ret ?_
  have hr := Option.some.inj hF
  subst hr
  exact ⟨_, resR1 rfl rfl, rfl, (H0).pick [] (by decide)⟩
def F_hypogeumlaw08_EntropyDraws_l0 (y116 : List UInt8) : Nat → (List UInt8) → Int → Option (Unit)
  | 0, _, _ => none
  | k + 1, x179, x185 =>
    if (decide (x185 < (((y116).length : Int)))) = true then
    (getI x179 x185).bind fun y239 =>
    (getI x179 x185).bind fun y244 =>
    F_hypogeumlaw08_EntropyDraws_l0 y116 k ((x179).set (Int.toNat x185) ((y239 + (1 : UInt8)))) (w64 (x185 + 1))
    else
    some ()
def F_hypogeumlaw08_EntropyDraws_l1 (p_b : List (Int × List UInt8)) : Nat → (List UInt8) → Int → (List UInt8) → Int → Int → Option ((Unit) ⊕ Bool)
  | 0, _, _, _, _, _ => none
  | k + 1, x351, x353, x356, x358, x360 =>
    if (decide (x360 < (((p_b).length : Int)))) = true then
    (getI p_b x360).bind fun y464 =>
    (F_hypogeumlaw08_does k x351 x353 x356 x358 y464.1 y464.2).bind fun r481 =>
    if (!r481.2.2.1) = true then
    some (.inr false)
    else
    (F_entropy_Source_Left r481.2.2.2.1 r481.2.2.2.2).bind fun r508 =>
    if (!decide (r508 = (((r481.1).length : Int)))) = true then
    some (.inr false)
    else
    (F_entropy_Source_Drawn r481.2.2.2.1 r481.2.2.2.2).bind fun r519 =>
    if (!decide (r519 = r481.2.1)) = true then
    some (.inr false)
    else
    F_hypogeumlaw08_EntropyDraws_l1 p_b k r481.2.2.2.1 r481.2.2.2.2 r481.1 r481.2.1 (w64 (x360 + 1))
    else
    some (.inl ())
def F_hypogeumlaw08_EntropyDraws (k : Nat) (p_a : List UInt8) (p_b : List (Int × List UInt8)) : Option (Bool) :=
  (F_hypogeumlaw08_few k p_a p_b).bind fun r101 =>
  if (!r101) = true then
  (F_hypogeumlaw08_awake).bind fun r107 =>
  some r107
  else
  (appI 140737488355328 [] p_a).bind fun y116 =>
  (F_entropy_New y116).bind fun r125 =>
  (F_hypogeumlaw08_EntropyDraws_l0 y116 k y116 0).bind fun out222 =>
  (F_hypogeumlaw08_EntropyDraws_l1 p_b k r125.1 r125.2 p_a 0 0).bind fun out447 =>
  match out447 with
  | .inr r => some r
  | .inl o450 =>
  (F_hypogeumlaw08_awake).bind fun r533 =>
  some r533
theorem hypogeumlaw08_EntropyDraws_ok (k : Nat) {S : Nat → Prop} (vp_a : Value) (p_a : List UInt8) (vp_b : Value) (p_b : List (Int × List UInt8)) (w : World) (H0 : Own w (footU []) w []) (hS : ∀ b, S b → ¬ footU [] b) (hp_a : Sl S w vp_a p_a.length (cel E8 p_a)) (hp_b : RSl (RP (.ofEnc EI) (RS (.ofEnc E8))) S w vp_b p_b) (r : Bool) (hF : F_hypogeumlaw08_EntropyDraws k p_a p_b = some r) :
    Calls Try.prog 3 #[vp_a, vp_b] w (Ret fun v w' => v = .bool r ∧ Own w (footU []) w' []) := by
  have qhp_a := hp_a.in (o := (footU [])) (w0 := w) (l := []) hS
  have qhp_b := hp_b.in (o := (footU [])) (w0 := w) (l := []) hS
  refine calls_C Try.func3 rfl Try.ntmps3 rfl ?_
  unfold F_hypogeumlaw08_EntropyDraws at hF
  refine C_seq ?_
  refine C_region rfl ?_
  refine L_op (o_assignE (v := .bool false) rfl ?_)
  refine L_nil ?_
  refine C_seq ?_
  refine C_seq ?_
  refine C_region rfl ?_
  refine L_op (o_moveE (v := vp_a) rfl ?_)
  refine L_op (o_moveE (v := vp_b) rfl ?_)
  obtain ⟨r101, h102, hF⟩ := bindE hF
  refine L_op (o_call (args := #[vp_a, vp_b]) rfl Try.func9 rfl (args2 rfl rfl) (hypogeumlaw08_few_ok k (S := SC [] []) vp_a p_a vp_b p_b w (H0.take [] (by decide)) (SC.ok _ []) ((qhp_a.now H0).sc []) ((qhp_b.now H0).sc []) _ h102) ?_)
  rintro _ w103 ⟨rfl, H105⟩
  have H104 : Own w (footU []) w103 [] := H0.back [] H105
  refine L_op (o_not rfl ?_)
  refine L_nil ?_
  refine C_cond rfl (fun hc106 => ?_) (fun hc106 => ?_)
  · replace hF := (ifT hc106).symm.trans hF
    refine C_seq ?_
    refine C_region rfl ?_
    obtain ⟨r107, h108, hF⟩ := bindE hF
    refine L_op (o_call (args := #[]) rfl Try.func10 rfl (args0 ) (hypogeumlaw08_awake_ok (S := SC [] [])  w103 (H104.take [] (by decide)) (SC.ok _ [])  _ h108) ?_)
    rintro _ w109 ⟨rfl, H111⟩
    have H110 : Own w (footU []) w109 [] := H104.back [] H111
    refine L_op (o_assignE (v := .bool r107) rfl ?_)
    refine L_nil ?_
    refine C_ret ?_
    have hr := Option.some.inj hF
    subst hr
    exact ⟨_, resR1 rfl rfl, rfl, (H110).pick [] (by decide)⟩
  · replace hF := (ifF hc106).symm.trans hF
    refine C_skip ?_
    refine C_seq ?_
    refine C_region rfl ?_
    refine L_op (o_slice0 el22 H104 ?_)
    intro v112 w113 hv114 H115
    refine L_op (o_moveE (v := vp_a) rfl ?_)
    obtain ⟨y116, h117, hF⟩ := bindE hF
    obtain ⟨h118, h119⟩ := appI_some h117
    have H120 := H115.nilRow 1 (v := v112) hv114
    refine L_op (o_appendE (E := E8) (k := 0) el22 rfl H120 rfl rfl ((qhp_a.now H120)) (h118) h119 ?_)
    rintro v122 w123 _ rfl (H124 : Own w (footU []) w123 [row 1 v122 (y116).length (cel E8 y116)])
    refine L_op (o_assignE (v := v122) rfl ?_)
    refine L_nil ?_
    refine C_seq ?_
    refine C_region rfl ?_
    refine L_op (o_moveE (v := v122) rfl ?_)
    obtain ⟨r125, h126, hF⟩ := bindE hF
    refine L_op (o_call (args := #[v122]) rfl Try.func11 rfl (args1 rfl) (entropy_New_ok (S := SC [row 1 v122 (y116).length (cel E8 y116)] []) v122 y116 w123 (H124.take [] (by decide)) (SC.ok _ []) (H124.rowSCM (mem 0 rfl) [] (k := 0) rfl rfl) _ h126) ?_)
    rintro _ w127 ⟨z129, z130, rfl, H131⟩
    have H128 : Own w (footU []) w127 [bx z129 [z130, i64 r125.2], row 1 z130 (r125.1).length (cel E8 r125.1), row 1 v122 (y116).length (cel E8 y116)] := H124.back [] H131
    refine L_op (o_moveE (v := vp_a) rfl ?_)
    refine L_op (o_buildL (cs := [vp_a, i64 0]) (vs := [(0, [vp_a])]) bd29 ⟨rfl, pc rfl (cells_sl qhp_a.is), trivial⟩ rfl ?_)
    refine L_op (o_alloc (cs := [.slice none 0 0, i64 0]) zr29 rfl H128 ?_)
    intro g134 w135 H136
    refine L_op (o_assignE (v := .pointer (some ⟨z129, 0, none⟩)) rfl ?_)
    refine L_do (o_store (l' := [bx g134 [vp_a, i64 0], bx z129 [z130, i64 r125.2], row 1 z130 (r125.1).length (cel E8 r125.1), row 1 v122 (y116).length (cel E8 y116)]) (k := 0) (ys := [vp_a, i64 0]) rfl H136 rfl rfl rfl sz29 (ones_cons (onec qhp_a.is) (ones_cons rfl ones_nil)) (Nat.le_of_ble_eq_true rfl) rfl rfl ?_)
    intro w138 H139
    refine L_op (o_assignE (v := .bool true) rfl ?_)
    refine L_nil ?_
    refine C_seq ?_
    refine C_seq ?_
    refine C_region rfl ?_
    refine L_op (o_moveE (v := v122) rfl ?_)
    refine L_op (o_lenSl Try.underlying22 rfl (H139.rowIsM (mem 3 rfl)) ?_)
    refine L_op (o_moveE (v := i64 0) rfl ?_)
    refine L_nil ?_
    obtain ⟨out222, hl223, hO224⟩ := bindE hF
    refine C_cut (fun f227 w228 => f227 1 = vp_b ∧ f227 6 = .pointer (some ⟨z129, 0, none⟩) ∧ f227 7 = .pointer (some ⟨g134, 0, none⟩) ∧ RSl (RP (.ofEnc EI) (RS (.ofEnc E8))) (TT S (footU []) w [bx z129 [z130, i64 r125.2], row 1 z130 (r125.1).length (cel E8 r125.1), bx g134 [vp_a, i64 0]]) w228 vp_b p_b ∧ Sl (TT S (footU []) w [bx z129 [z130, i64 r125.2], row 1 z130 (r125.1).length (cel E8 r125.1), bx g134 [vp_a, i64 0]]) w228 vp_a (p_a).length (cel E8 p_a) ∧ Own w (footU []) w228 [bx z129 [z130, i64 r125.2], row 1 z130 (r125.1).length (cel E8 r125.1), bx g134 [vp_a, i64 0]]) ?_ ?_
    · refine C_block (C_loop (fun k f225 w226 => ∃ (x179 : List UInt8) (x185 : Int) (v178 : Value), F_hypogeumlaw08_EntropyDraws_l0 y116 k x179 x185 = some out222 ∧ f225 1 = vp_b ∧ f225 5 = v178 ∧ f225 6 = .pointer (some ⟨z129, 0, none⟩) ∧ f225 7 = .pointer (some ⟨g134, 0, none⟩) ∧ f225 25 = i64 (((y116).length : Int)) ∧ f225 26 = i64 x185 ∧ RSl (RP (.ofEnc EI) (RS (.ofEnc E8))) (TT S (footU []) w [row 1 v178 (x179).length (cel E8 x179), bx z129 [z130, i64 r125.2], row 1 z130 (r125.1).length (cel E8 r125.1), bx g134 [vp_a, i64 0]]) w226 vp_b p_b ∧ Sl (TT S (footU []) w [row 1 v178 (x179).length (cel E8 x179), bx z129 [z130, i64 r125.2], row 1 z130 (r125.1).length (cel E8 r125.1), bx g134 [vp_a, i64 0]]) w226 vp_a (p_a).length (cel E8 p_a) ∧ Own w (footU []) w226 [row 1 v178 (x179).length (cel E8 x179), bx z129 [z130, i64 r125.2], row 1 z130 (r125.1).length (cel E8 r125.1), bx g134 [vp_a, i64 0]]) k ?_ ?_)
      ·
        exact ⟨y116, 0, v122, hl223, rfl, rfl, rfl, rfl, rfl, rfl, (((qhp_b.now H139)).lessP [3, 1, 2, 0]), (((qhp_a.now H139)).lessP [3, 1, 2, 0]), (H139).pick [3, 1, 2, 0] (by decide)⟩
      ·
        rintro k f229 w230 ⟨x179, x185, v178, hF, s232, s233, s234, s235, s236, s237, q177, q184, HB231⟩
        cases k with
        | zero => cases hF
        | succ k =>
          rw [F_hypogeumlaw08_EntropyDraws_l0.eq_2] at hF
          refine C_seq ?_
          refine C_region rfl ?_
          refine L_op (o_lss s237 s236 ?_)
          refine L_nil ?_
          refine C_seq ?_
          refine C_cond rfl (fun hc238 => ?_) (fun hc238 => ?_)
          · replace hF := (ifT hc238).symm.trans hF
            refine C_skip ?_
            refine C_seq ?_
            refine C_block ?_
            refine C_seq ?_
            refine C_region rfl ?_
            refine L_op (o_moveE (v := i64 x185) s237 ?_)
            refine L_op (o_assignE (v := i64 x185) rfl ?_)
            refine L_nil ?_
            refine C_region rfl ?_
            refine L_op (o_moveE (v := v178) s233 ?_)
            refine L_op (o_moveE (v := i64 x185) rfl ?_)
            obtain ⟨y239, h240, hF⟩ := bindE hF
            obtain ⟨h241, h242, h243⟩ := getI_at h240
            refine L_op (o_indexSl (v := v178) Try.underlying22 sz5 rfl (HB231.fresh.rowIsM (mem 0 rfl)) rfl h241 h242 ?_)
            refine L_op (o_load Try.underlying5 rfl rfl ((HB231.fresh.rowM (mem 0 rfl)).celOne h243) ?_)
            refine L_op (o_addU8 (a := y239) (b := (1 : UInt8)) rfl rfl ?_)
            obtain ⟨y244, h245, hF⟩ := bindE hF
            obtain ⟨h246, h247, h248⟩ := getI_at h245
            refine L_op (o_indexSl (v := v178) Try.underlying22 sz5 rfl (HB231.fresh.rowIsM (mem 0 rfl)) rfl h246 h247 ?_)
            have hxs := h248
            refine L_do (o_storeCelE (E := E8) (v := v178) (xs := x179) (z' := ((y239 + (1 : UInt8)))) (u := u8 ((y239 + (1 : UInt8)))) (sz := 1) (k := 0) rfl HB231.fresh rfl rfl rfl sz5 hxs rfl ?_)
            intro w249 (H250 : Own w230 (footU [row 1 v178 (x179).length (cel E8 x179), bx z129 [z130, i64 r125.2], row 1 z130 (r125.1).length (cel E8 r125.1), bx g134 [vp_a, i64 0]]) w249 [row 1 v178 ((x179).set (Int.toNat x185) ((y239 + (1 : UInt8)))).length (cel E8 ((x179).set (Int.toNat x185) ((y239 + (1 : UInt8))))), bx z129 [z130, i64 r125.2], row 1 z130 (r125.1).length (cel E8 r125.1), bx g134 [vp_a, i64 0]])
            refine L_nil ?_
            refine C_region rfl ?_
            refine L_op (o_add s237 rfl ?_)
            refine L_op (o_moveE (v := i64 (w64 (x185 + 1))) rfl ?_)
            refine L_nil ?_
            exact ⟨k, Nat.lt_succ_self k, ⟨(x179).set (Int.toNat x185) ((y239 + (1 : UInt8))), w64 (x185 + 1), v178, hF, s232, s233, s234, s235, s236, rfl, (((q177.now H250)).lessP [0, 1, 2, 3]), (((q184.now H250)).lessP [0, 1, 2, 3]), (HB231.trans H250).pick [0, 1, 2, 3] (by decide)⟩⟩
          · replace hF := (ifF hc238).symm.trans hF
            refine C_exit ?_
            have hr251 := Option.some.inj hF
            subst hr251
            exact ⟨s232, s234, s235, (((q177.now HB231.fresh)).lessP [1, 2, 3]), (((q184.now HB231.fresh)).lessP [1, 2, 3]), (HB231.trans HB231.fresh).pick [1, 2, 3] (by decide)⟩
    · rintro f252 w253 ⟨s255, s256, s257, q217, q221, HB254⟩
      have hF := hO224
      refine C_seq ?_
      refine C_seq ?_
      refine C_region rfl ?_
      refine L_op (o_moveE (v := vp_b) s255 ?_)
      refine L_op (o_lenSl Try.underlying23 rfl q217.is ?_)
      refine L_op (o_moveE (v := i64 0) rfl ?_)
      refine L_nil ?_
      obtain ⟨out447, hl448, hO449⟩ := bindE hF
      refine C_cut (fun f453 w454 => ∃ o450 : Unit, out447 = .inl o450 ∧ Own w (footU []) w454 []) ?_ ?_
      · refine C_block (C_loop (fun k f451 w452 => ∃ (x351 : List UInt8) (x353 : Int) (x356 : List UInt8) (x358 : Int) (x360 : Int) (v350 : Value) (v355 : Value), F_hypogeumlaw08_EntropyDraws_l1 p_b k x351 x353 x356 x358 x360 = some out447 ∧ f451 6 = .pointer (some ⟨z129, 0, none⟩) ∧ f451 7 = .pointer (some ⟨g134, 0, none⟩) ∧ f451 36 = vp_b ∧ f451 37 = i64 (((p_b).length : Int)) ∧ f451 38 = i64 x360 ∧ Sl (TT S (footU []) w [bx z129 [v350, i64 x353], row 1 v350 (x351).length (cel E8 x351), bx g134 [v355, i64 x358]]) w452 v355 (x356).length (cel E8 x356) ∧ RSl (RP (.ofEnc EI) (RS (.ofEnc E8))) (TT S (footU []) w [bx z129 [v350, i64 x353], row 1 v350 (x351).length (cel E8 x351), bx g134 [v355, i64 x358]]) w452 vp_b p_b ∧ Own w (footU []) w452 [bx z129 [v350, i64 x353], row 1 v350 (x351).length (cel E8 x351), bx g134 [v355, i64 x358]]) k ?_ ?_)
        ·
          exact ⟨r125.1, r125.2, p_a, 0, 0, z130, vp_a, hl448, s256, s257, rfl, rfl, rfl, (((q221.now HB254.fresh)).lessP [0, 1, 2]), (((q217.now HB254.fresh)).lessP [0, 1, 2]), (HB254.trans HB254.fresh).pick [0, 1, 2] (by decide)⟩
        ·
          rintro k f455 w456 ⟨x351, x353, x356, x358, x360, v350, v355, hF, s458, s459, s460, s461, s462, q357, q359, HB457⟩
          cases k with
          | zero => cases hF
          | succ k =>
            rw [F_hypogeumlaw08_EntropyDraws_l1.eq_2] at hF
            refine C_seq ?_
            refine C_region rfl ?_
            refine L_op (o_lss s462 s461 ?_)
            refine L_nil ?_
            refine C_seq ?_
            refine C_cond rfl (fun hc463 => ?_) (fun hc463 => ?_)
            · replace hF := (ifT hc463).symm.trans hF
              refine C_skip ?_
              refine C_seq ?_
              refine C_block ?_
              refine C_seq ?_
              refine C_region rfl ?_
              obtain ⟨y464, h465, hF⟩ := bindE hF
              obtain ⟨h466, h467, h468⟩ := getI_at h465
              obtain ⟨cs469, hat470, hrel471⟩ := q359.atS h468 (by decide)
              obtain ⟨_, _, rfl, rfl, ⟨v472, rfl, q473⟩⟩ := hrel471
              have q474 := rsl_enc q473
              refine L_op (o_indexSl (v := vp_b) Try.underlying23 sz31 s460 q359.is s462 h466 h467 ?_)
              refine L_op (o_loadA Try.underlying31 rfl sz31 rfl ((hat470.now HB457.fresh).at_) rfl ?_)
              refine L_op (o_alloc (cs := [i64 0, .slice none 0 0]) zr31 rfl HB457.fresh ?_)
              intro g475 w476 H477
              refine L_do (o_store (l' := [bx g475 [i64 y464.1, v472], bx z129 [v350, i64 x353], row 1 v350 (x351).length (cel E8 x351), bx g134 [v355, i64 x358]]) (k := 0) (ys := [i64 y464.1, v472]) rfl H477 rfl rfl rfl sz31 (ones_cons rfl (ones_cons (onec q474.is) ones_nil)) (Nat.le_of_ble_eq_true rfl) rfl rfl ?_)
              intro w479 H480
              refine L_nil ?_
              refine C_seq ?_
              refine C_region rfl ?_
              refine L_op (o_moveE (v := .pointer (some ⟨z129, 0, none⟩)) s458 ?_)
              refine L_op (o_loadA Try.underlying29 rfl sz29 s459 ((H480.bxM (mem 3 rfl)).part 0 2 rfl) rfl ?_)
              refine L_op (o_loadA Try.underlying31 rfl sz31 rfl ((H480.bxM (mem 0 rfl)).part 0 2 rfl) rfl ?_)
              obtain ⟨r481, h482, hF⟩ := bindE hF
              refine L_op (o_call (args := #[.pointer (some ⟨z129, 0, none⟩), .agg ([v355, i64 x358]).toArray, .agg ([i64 y464.1, v472]).toArray]) rfl Try.func12 rfl (args3 rfl rfl rfl) (hypogeumlaw08_does_ok k (S := SR S (footU []) w w479 [bx g475 [i64 y464.1, v472], bx z129 [v350, i64 x353], row 1 v350 (x351).length (cel E8 x351), bx g134 [v355, i64 x358]]) z129 v350 x351 x353 v355 x356 x358 y464.1 v472 y464.2 w479 ((HB457.trans H480).take [1, 2] (by decide)) (SR.ok [1, 2]) ((q357.now H480).sr) ((q474.now H480).sr) _ h482) ?_)
              rintro _ w483 ⟨z485, z486, rfl, q487, H488⟩
              have H491 : Own w (footU []) w483 [bx z129 [z486, i64 r481.2.2.2.2], row 1 z486 (r481.2.2.2.1).length (cel E8 r481.2.2.2.1), bx g475 [i64 y464.1, v472], bx g134 [v355, i64 x358]] := (HB457.trans H480).back [1, 2] H488
              have H492 : Own w456 (footU [bx z129 [v350, i64 x353], row 1 v350 (x351).length (cel E8 x351), bx g134 [v355, i64 x358]]) w483 [bx z129 [z486, i64 r481.2.2.2.2], row 1 z486 (r481.2.2.2.1).length (cel E8 r481.2.2.2.1), bx g475 [i64 y464.1, v472], bx g134 [v355, i64 x358]] := H480.back [1, 2] H488
              have q493 := q359.now H492
              have q494 := q474.now H492
              have q495 := q357.now H492
              have q496 : Sl (TT S (footU []) w [bx z129 [z486, i64 r481.2.2.2.2], row 1 z486 (r481.2.2.2.1).length (cel E8 r481.2.2.2.1), bx g475 [i64 y464.1, v472], bx g134 [v355, i64 x358]]) _ _ _ _ := q487.res (ks := [1, 2]) (HB457.trans H480) H488
              refine L_op (o_moveE (v := .tuple #[.agg ([z485, i64 r481.2.1]).toArray, .bool r481.2.2.1]) rfl ?_)
              refine L_op (o_extract rfl rfl ?_)
              refine L_op (o_extract rfl rfl ?_)
              refine L_do (o_store (l' := [bx z129 [z486, i64 r481.2.2.2.2], row 1 z486 (r481.2.2.2.1).length (cel E8 r481.2.2.2.1), bx g475 [i64 y464.1, v472], bx g134 [z485, i64 r481.2.1]]) (k := 3) (ys := [z485, i64 r481.2.1]) rfl H491.fresh s459 rfl rfl sz29 (ones_cons (onec q496.is) (ones_cons rfl ones_nil)) (Nat.le_of_ble_eq_true rfl) rfl rfl ?_)
              intro w497 H498
              refine L_op (o_assignE (v := .bool r481.2.2.1) rfl ?_)
              refine L_nil ?_
              refine C_seq ?_
              rcases Bool.eq_false_or_eq_true (!r481.2.2.1) with hc499 | hc499
              · replace hF := (ifT hc499).symm.trans hF
                refine C_any (nb := 4) 17 [qv [] (.bool r481.2.2.1), qv [0] (.bool (!r481.2.2.1)), qv [0, 1] (.bool (!r481.2.2.1)), qv [0, 1, 2] undef, qv [0, 1, 2, 3] undef, qv [0, 1, 2] undef, qv [0, 1, 2, 5] undef, qv [0, 1, 2, 5, 6] undef, qv [0, 1, 2, 3, 4, 5, 6, 7] undef, qv [0, 1, 2, 3, 4, 5, 6, 7, 8] (.bool true), qv [0, 1, 2, 3, 4, 5, 6, 7, 8, 9] (.bool true), qv [0, 1, 2, 3, 4, 5, 6, 7, 8, 9, 10] undef, qv [0, 1, 2, 3, 4, 5, 6, 7, 8, 9, 10, 11] undef, qv [0, 1, 2, 3, 4, 5, 6, 7, 8, 9, 10] undef, qv [0, 1, 2, 3, 4, 5, 6, 7, 8, 9, 10, 13] undef, qv [0, 1, 2, 3, 4, 5, 6, 7, 8, 9, 10, 11, 12, 13, 14] undef, qv [0, 1, 2, 3, 4, 5, 6, 7, 8, 9, 10, 11, 12, 13, 14, 15] (.bool true)] mixed (by kernel_rfl) H498 ⟨?_, ?_, ?_, ?_, ?_, ?_, ?_, ?_, ?_, ?_, ?_, ?_, ?_, ?_, ?_, ?_, ?_, trivial⟩ ?_
                · intro fA wA lA val (HA : Own _ _ wA lA) hl hb hd
                  exact o_moveE (v := .bool r481.2.2.1) (hb 8 rfl) ⟨rfl, HA⟩
                · intro fA wA lA val (HA : Own _ _ wA lA) hl hb hd
                  exact o_not ((hd 0 rfl).v rfl rfl) ⟨rfl, HA⟩
                · intro fA wA lA val (HA : Own _ _ wA lA) hl hb hd
                  exact o_moveE (v := .bool (!r481.2.2.1)) ((hd 1 rfl).v rfl rfl) ⟨rfl, HA⟩
                · intro fA wA lA val (HA : Own _ _ wA lA) hl hb hd
                  refine ⟨rfl, some true, (((hd 2 rfl).v rfl rfl).trans (congrArg Value.bool hc499)), fun he => (by cases he), fun _ => ⟨rfl, rfl, rfl⟩⟩
                · intro fA wA lA val (HA : Own _ _ wA lA) hl hb hd
                  refine ⟨rfl, some true, (((hd 2 rfl).v rfl rfl).trans (congrArg Value.bool hc499)), fun he => (by cases he), fun _ => ⟨rfl, rfl, rfl⟩⟩
                · intro fA wA lA val (HA : Own _ _ wA lA) hl hb hd
                  refine ⟨rfl, some true, (((hd 2 rfl).v rfl rfl).trans (congrArg Value.bool hc499)), fun he => (by cases he), fun _ => ⟨rfl, rfl, rfl⟩⟩
                · intro fA wA lA val (HA : Own _ _ wA lA) hl hb hd
                  refine ⟨rfl, some true, (((hd 2 rfl).v rfl rfl).trans (congrArg Value.bool hc499)), fun he => (by cases he), fun _ => ⟨rfl, rfl, rfl⟩⟩
                · intro fA wA lA val (HA : Own _ _ wA lA) hl hb hd
                  refine ⟨rfl, some true, (((hd 2 rfl).v rfl rfl).trans (congrArg Value.bool hc499)), fun he => (by cases he), fun _ => ⟨rfl, rfl, rfl⟩⟩
                · intro fA wA lA val (HA : Own _ _ wA lA) hl hb hd
                  refine ⟨rfl, some true, (((hd 2 rfl).v rfl rfl).trans (congrArg Value.bool hc499)), fun he => (by cases he), fun _ => ⟨rfl, rfl, rfl⟩⟩
                · intro fA wA lA val (HA : Own _ _ wA lA) hl hb hd
                  exact o_pickE (v := .bool true) (((hd 2 rfl).v rfl rfl).trans (congrArg Value.bool hc499)) rfl ⟨rfl, HA⟩
                · intro fA wA lA val (HA : Own _ _ wA lA) hl hb hd
                  exact o_moveE (v := .bool true) ((hd 9 rfl).v rfl rfl) ⟨rfl, HA⟩
                · intro fA wA lA val (HA : Own _ _ wA lA) hl hb hd
                  refine ⟨rfl, some true, ((hd 10 rfl).v rfl rfl), fun he => (by cases he), fun _ => ⟨rfl, rfl, rfl⟩⟩
                · intro fA wA lA val (HA : Own _ _ wA lA) hl hb hd
                  refine ⟨rfl, some true, ((hd 10 rfl).v rfl rfl), fun he => (by cases he), fun _ => ⟨rfl, rfl, rfl⟩⟩
                · intro fA wA lA val (HA : Own _ _ wA lA) hl hb hd
                  refine ⟨rfl, some true, ((hd 10 rfl).v rfl rfl), fun he => (by cases he), fun _ => ⟨rfl, rfl, rfl⟩⟩
                · intro fA wA lA val (HA : Own _ _ wA lA) hl hb hd
                  refine ⟨rfl, some true, ((hd 10 rfl).v rfl rfl), fun he => (by cases he), fun _ => ⟨rfl, rfl, rfl⟩⟩
                · intro fA wA lA val (HA : Own _ _ wA lA) hl hb hd
                  refine ⟨rfl, some true, ((hd 10 rfl).v rfl rfl), fun he => (by cases he), fun _ => ⟨rfl, rfl, rfl⟩⟩
                · intro fA wA lA val (HA : Own _ _ wA lA) hl hb hd
                  exact o_pickE (v := .bool true) ((hd 10 rfl).v rfl rfl) rfl ⟨rfl, HA⟩
                · intro f501 w502 val500 H503 hd504 hb505
                  have H506 : Own w483 (footU [bx z129 [z486, i64 r481.2.2.2.2], row 1 z486 (r481.2.2.2.1).length (cel E8 r481.2.2.2.1), bx g475 [i64 y464.1, v472], bx g134 [v355, i64 x358]]) w502 [bx z129 [z486, i64 r481.2.2.2.2], row 1 z486 (r481.2.2.2.1).length (cel E8 r481.2.2.2.1), bx g475 [i64 y464.1, v472], bx g134 [z485, i64 r481.2.1]] := H503
                  refine L_nil ?_
                  refine C_cond (b := true) (fin_v (hd504 16 (by decide)) rfl) (fun hc507 => ?_) (fun hc507 => ?_)
                  rotate_left
                  · cases hc507
                  refine C_seq ?_
                  refine C_region rfl ?_
                  refine L_op (o_assignE (v := .bool false) rfl ?_)
                  refine L_nil ?_
                  refine C_ret ?_
                  have hr := Option.some.inj hF
                  subst hr
                  have hr := Option.some.inj hO449
                  subst hr
                  exact ⟨_, resR1 rfl rfl, rfl, (H491.trans H506).pick [] (by decide)⟩
              · replace hF := (ifF hc499).symm.trans hF
                obtain ⟨r508, h509, hF⟩ := bindE hF
                rcases Bool.eq_false_or_eq_true (!decide (r508 = (((r481.1).length : Int)))) with hc510 | hc510
                · replace hF := (ifT hc510).symm.trans hF
                  refine C_any (nb := 4) 17 [qv [] (.bool r481.2.2.1), qv [0] (.bool (!r481.2.2.1)), qv [0, 1] (.bool (!r481.2.2.1)), qv [0, 1, 2] (.pointer (some ⟨z129, 0, none⟩)), ⟨[0, 1, 2, 3], [], fun vs v => v = i64 r508, fun vs v => [], []⟩, qv [0, 1, 2] (.pointer (some ⟨g134, 0, none⟩)), qv [0, 1, 2, 5] (z485), qv [0, 1, 2, 5, 6] (i64 (((r481.1).length : Int))), qv [0, 1, 2, 3, 4, 5, 6, 7] (.bool (!decide (r508 = (((r481.1).length : Int))))), qv [0, 1, 2, 3, 4, 5, 6, 7, 8] (.bool (!decide (r508 = (((r481.1).length : Int))))), qv [0, 1, 2, 3, 4, 5, 6, 7, 8, 9] (.bool (!decide (r508 = (((r481.1).length : Int))))), qv [0, 1, 2, 3, 4, 5, 6, 7, 8, 9, 10] undef, qv [0, 1, 2, 3, 4, 5, 6, 7, 8, 9, 10, 11] undef, qv [0, 1, 2, 3, 4, 5, 6, 7, 8, 9, 10] undef, qv [0, 1, 2, 3, 4, 5, 6, 7, 8, 9, 10, 13] undef, qv [0, 1, 2, 3, 4, 5, 6, 7, 8, 9, 10, 11, 12, 13, 14] undef, qv [0, 1, 2, 3, 4, 5, 6, 7, 8, 9, 10, 11, 12, 13, 14, 15] (.bool true)] mixed (by kernel_rfl) H498 ⟨?_, ?_, ?_, ?_, ?_, ?_, ?_, ?_, ?_, ?_, ?_, ?_, ?_, ?_, ?_, ?_, ?_, trivial⟩ ?_
                  · intro fA wA lA val (HA : Own _ _ wA lA) hl hb hd
                    exact o_moveE (v := .bool r481.2.2.1) (hb 8 rfl) ⟨rfl, HA⟩
                  · intro fA wA lA val (HA : Own _ _ wA lA) hl hb hd
                    exact o_not ((hd 0 rfl).v rfl rfl) ⟨rfl, HA⟩
                  · intro fA wA lA val (HA : Own _ _ wA lA) hl hb hd
                    exact o_moveE (v := .bool (!r481.2.2.1)) ((hd 1 rfl).v rfl rfl) ⟨rfl, HA⟩
                  · intro fA wA lA val (HA : Own _ _ wA lA) hl hb hd
                    refine ⟨rfl, some false, (((hd 2 rfl).v rfl rfl).trans (congrArg Value.bool hc499)), fun _ => ?_, fun he => absurd rfl he⟩
                    exact o_moveE (v := .pointer (some ⟨z129, 0, none⟩)) ((hb 6 rfl).trans s458) ⟨rfl, HA⟩
                  · intro fA wA lA val (HA : Own _ _ wA lA) hl hb hd
                    refine ⟨rfl, some false, (((hd 2 rfl).v rfl rfl).trans (congrArg Value.bool hc499)), fun _ => ?_, fun he => absurd rfl he⟩
                    refine o_call (args := #[.pointer (some ⟨z129, 0, none⟩)]) rfl Try.func13 rfl (args1 ((hd 3 rfl).v rfl rfl)) (entropy_Source_Left_ok (S := SC lA []) z129 z486 r481.2.2.2.1 r481.2.2.2.2 wA (HA.take [] (by decide)) (SC.ok lA []) (AtS.sc0 (HA.bxM (hl 0 _ rfl rfl))) (HA.rowM (hl 1 _ rfl rfl)).sc0 _ h509) ?_
                    rintro _ w ⟨rfl, H⟩
                    exact ⟨rfl, HA.back0 H⟩
                  · intro fA wA lA val (HA : Own _ _ wA lA) hl hb hd
                    refine ⟨rfl, some false, (((hd 2 rfl).v rfl rfl).trans (congrArg Value.bool hc499)), fun _ => ?_, fun he => absurd rfl he⟩
                    exact o_fieldAddr Try.underlying29 rfl sz22 ((hb 7 rfl).trans s459) rfl ⟨rfl, HA⟩
                  · intro fA wA lA val (HA : Own _ _ wA lA) hl hb hd
                    refine ⟨rfl, some false, (((hd 2 rfl).v rfl rfl).trans (congrArg Value.bool hc499)), fun _ => ?_, fun he => absurd rfl he⟩
                    exact o_load Try.underlying22 rfl ((hd 5 rfl).v rfl rfl) ((HA.bxM (hl 3 _ rfl rfl)).one 0 rfl) ⟨rfl, HA⟩
                  · intro fA wA lA val (HA : Own _ _ wA lA) hl hb hd
                    refine ⟨rfl, some false, (((hd 2 rfl).v rfl rfl).trans (congrArg Value.bool hc499)), fun _ => ?_, fun he => absurd rfl he⟩
                    exact o_lenSl Try.underlying22 ((hd 6 rfl).v rfl rfl) q496.is ⟨rfl, HA⟩
                  · intro fA wA lA val (HA : Own _ _ wA lA) hl hb hd
                    refine ⟨rfl, some false, (((hd 2 rfl).v rfl rfl).trans (congrArg Value.bool hc499)), fun _ => ?_, fun he => absurd rfl he⟩
                    exact o_neq ((hd 4 rfl).1.trans (hd 4 rfl).2.1) ((hd 7 rfl).v rfl rfl) ⟨rfl, HA⟩
                  · intro fA wA lA val (HA : Own _ _ wA lA) hl hb hd
                    exact o_pickE (v := .bool (!decide (r508 = (((r481.1).length : Int))))) (((hd 2 rfl).v rfl rfl).trans (congrArg Value.bool hc499)) ((hd 8 rfl).v rfl rfl) ⟨rfl, HA⟩
                  · intro fA wA lA val (HA : Own _ _ wA lA) hl hb hd
                    exact o_moveE (v := .bool (!decide (r508 = (((r481.1).length : Int))))) ((hd 9 rfl).v rfl rfl) ⟨rfl, HA⟩
                  · intro fA wA lA val (HA : Own _ _ wA lA) hl hb hd
                    refine ⟨rfl, some true, (((hd 10 rfl).v rfl rfl).trans (congrArg Value.bool hc510)), fun he => (by cases he), fun _ => ⟨rfl, rfl, rfl⟩⟩
                  · intro fA wA lA val (HA : Own _ _ wA lA) hl hb hd
                    refine ⟨rfl, some true, (((hd 10 rfl).v rfl rfl).trans (congrArg Value.bool hc510)), fun he => (by cases he), fun _ => ⟨rfl, rfl, rfl⟩⟩
                  · intro fA wA lA val (HA : Own _ _ wA lA) hl hb hd
                    refine ⟨rfl, some true, (((hd 10 rfl).v rfl rfl).trans (congrArg Value.bool hc510)), fun he => (by cases he), fun _ => ⟨rfl, rfl, rfl⟩⟩
                  · intro fA wA lA val (HA : Own _ _ wA lA) hl hb hd
                    refine ⟨rfl, some true, (((hd 10 rfl).v rfl rfl).trans (congrArg Value.bool hc510)), fun he => (by cases he), fun _ => ⟨rfl, rfl, rfl⟩⟩
                  · intro fA wA lA val (HA : Own _ _ wA lA) hl hb hd
                    refine ⟨rfl, some true, (((hd 10 rfl).v rfl rfl).trans (congrArg Value.bool hc510)), fun he => (by cases he), fun _ => ⟨rfl, rfl, rfl⟩⟩
                  · intro fA wA lA val (HA : Own _ _ wA lA) hl hb hd
                    exact o_pickE (v := .bool true) (((hd 10 rfl).v rfl rfl).trans (congrArg Value.bool hc510)) rfl ⟨rfl, HA⟩
                  · intro f512 w513 val511 H514 hd515 hb516
                    have H517 : Own w483 (footU [bx z129 [z486, i64 r481.2.2.2.2], row 1 z486 (r481.2.2.2.1).length (cel E8 r481.2.2.2.1), bx g475 [i64 y464.1, v472], bx g134 [v355, i64 x358]]) w513 [bx z129 [z486, i64 r481.2.2.2.2], row 1 z486 (r481.2.2.2.1).length (cel E8 r481.2.2.2.1), bx g475 [i64 y464.1, v472], bx g134 [z485, i64 r481.2.1]] := H514
                    refine L_nil ?_
                    refine C_cond (b := true) (fin_v (hd515 16 (by decide)) rfl) (fun hc518 => ?_) (fun hc518 => ?_)
                    rotate_left
                    · cases hc518
                    refine C_seq ?_
                    refine C_region rfl ?_
                    refine L_op (o_assignE (v := .bool false) rfl ?_)
                    refine L_nil ?_
                    refine C_ret ?_
                    have hr := Option.some.inj hF
                    subst hr
                    have hr := Option.some.inj hO449
                    subst hr
                    exact ⟨_, resR1 rfl rfl, rfl, (H491.trans H517).pick [] (by decide)⟩
                · replace hF := (ifF hc510).symm.trans hF
                  obtain ⟨r519, h520, hF⟩ := bindE hF
                  refine C_any (nb := 4) 17 [qv [] (.bool r481.2.2.1), qv [0] (.bool (!r481.2.2.1)), qv [0, 1] (.bool (!r481.2.2.1)), qv [0, 1, 2] (.pointer (some ⟨z129, 0, none⟩)), ⟨[0, 1, 2, 3], [], fun vs v => v = i64 r508, fun vs v => [], []⟩, qv [0, 1, 2] (.pointer (some ⟨g134, 0, none⟩)), qv [0, 1, 2, 5] (z485), qv [0, 1, 2, 5, 6] (i64 (((r481.1).length : Int))), qv [0, 1, 2, 3, 4, 5, 6, 7] (.bool (!decide (r508 = (((r481.1).length : Int))))), qv [0, 1, 2, 3, 4, 5, 6, 7, 8] (.bool (!decide (r508 = (((r481.1).length : Int))))), qv [0, 1, 2, 3, 4, 5, 6, 7, 8, 9] (.bool (!decide (r508 = (((r481.1).length : Int))))), qv [0, 1, 2, 3, 4, 5, 6, 7, 8, 9, 10] (.pointer (some ⟨z129, 0, none⟩)), ⟨[0, 1, 2, 3, 4, 5, 6, 7, 8, 9, 10, 11], [], fun vs v => v = i64 r519, fun vs v => [], []⟩, qv [0, 1, 2, 3, 4, 5, 6, 7, 8, 9, 10] (.pointer (some ⟨g134, 1, none⟩)), qv [0, 1, 2, 3, 4, 5, 6, 7, 8, 9, 10, 13] (i64 r481.2.1), qv [0, 1, 2, 3, 4, 5, 6, 7, 8, 9, 10, 11, 12, 13, 14] (.bool (!decide (r519 = r481.2.1))), qv [0, 1, 2, 3, 4, 5, 6, 7, 8, 9, 10, 11, 12, 13, 14, 15] (.bool (!decide (r519 = r481.2.1)))] mixed (by kernel_rfl) H498 ⟨?_, ?_, ?_, ?_, ?_, ?_, ?_, ?_, ?_, ?_, ?_, ?_, ?_, ?_, ?_, ?_, ?_, trivial⟩ ?_
                  · intro fA wA lA val (HA : Own _ _ wA lA) hl hb hd
                    exact o_moveE (v := .bool r481.2.2.1) (hb 8 rfl) ⟨rfl, HA⟩
                  · intro fA wA lA val (HA : Own _ _ wA lA) hl hb hd
                    exact o_not ((hd 0 rfl).v rfl rfl) ⟨rfl, HA⟩
                  · intro fA wA lA val (HA : Own _ _ wA lA) hl hb hd
                    exact o_moveE (v := .bool (!r481.2.2.1)) ((hd 1 rfl).v rfl rfl) ⟨rfl, HA⟩
                  · intro fA wA lA val (HA : Own _ _ wA lA) hl hb hd
                    refine ⟨rfl, some false, (((hd 2 rfl).v rfl rfl).trans (congrArg Value.bool hc499)), fun _ => ?_, fun he => absurd rfl he⟩
                    exact o_moveE (v := .pointer (some ⟨z129, 0, none⟩)) ((hb 6 rfl).trans s458) ⟨rfl, HA⟩
                  · intro fA wA lA val (HA : Own _ _ wA lA) hl hb hd
                    refine ⟨rfl, some false, (((hd 2 rfl).v rfl rfl).trans (congrArg Value.bool hc499)), fun _ => ?_, fun he => absurd rfl he⟩
                    refine o_call (args := #[.pointer (some ⟨z129, 0, none⟩)]) rfl Try.func13 rfl (args1 ((hd 3 rfl).v rfl rfl)) (entropy_Source_Left_ok (S := SC lA []) z129 z486 r481.2.2.2.1 r481.2.2.2.2 wA (HA.take [] (by decide)) (SC.ok lA []) (AtS.sc0 (HA.bxM (hl 0 _ rfl rfl))) (HA.rowM (hl 1 _ rfl rfl)).sc0 _ h509) ?_
                    rintro _ w ⟨rfl, H⟩
                    exact ⟨rfl, HA.back0 H⟩
                  · intro fA wA lA val (HA : Own _ _ wA lA) hl hb hd
                    refine ⟨rfl, some false, (((hd 2 rfl).v rfl rfl).trans (congrArg Value.bool hc499)), fun _ => ?_, fun he => absurd rfl he⟩
                    exact o_fieldAddr Try.underlying29 rfl sz22 ((hb 7 rfl).trans s459) rfl ⟨rfl, HA⟩
                  · intro fA wA lA val (HA : Own _ _ wA lA) hl hb hd
                    refine ⟨rfl, some false, (((hd 2 rfl).v rfl rfl).trans (congrArg Value.bool hc499)), fun _ => ?_, fun he => absurd rfl he⟩
                    exact o_load Try.underlying22 rfl ((hd 5 rfl).v rfl rfl) ((HA.bxM (hl 3 _ rfl rfl)).one 0 rfl) ⟨rfl, HA⟩
                  · intro fA wA lA val (HA : Own _ _ wA lA) hl hb hd
                    refine ⟨rfl, some false, (((hd 2 rfl).v rfl rfl).trans (congrArg Value.bool hc499)), fun _ => ?_, fun he => absurd rfl he⟩
                    exact o_lenSl Try.underlying22 ((hd 6 rfl).v rfl rfl) q496.is ⟨rfl, HA⟩
                  · intro fA wA lA val (HA : Own _ _ wA lA) hl hb hd
                    refine ⟨rfl, some false, (((hd 2 rfl).v rfl rfl).trans (congrArg Value.bool hc499)), fun _ => ?_, fun he => absurd rfl he⟩
                    exact o_neq ((hd 4 rfl).1.trans (hd 4 rfl).2.1) ((hd 7 rfl).v rfl rfl) ⟨rfl, HA⟩
                  · intro fA wA lA val (HA : Own _ _ wA lA) hl hb hd
                    exact o_pickE (v := .bool (!decide (r508 = (((r481.1).length : Int))))) (((hd 2 rfl).v rfl rfl).trans (congrArg Value.bool hc499)) ((hd 8 rfl).v rfl rfl) ⟨rfl, HA⟩
                  · intro fA wA lA val (HA : Own _ _ wA lA) hl hb hd
                    exact o_moveE (v := .bool (!decide (r508 = (((r481.1).length : Int))))) ((hd 9 rfl).v rfl rfl) ⟨rfl, HA⟩
                  · intro fA wA lA val (HA : Own _ _ wA lA) hl hb hd
                    refine ⟨rfl, some false, (((hd 10 rfl).v rfl rfl).trans (congrArg Value.bool hc510)), fun _ => ?_, fun he => absurd rfl he⟩
                    exact o_moveE (v := .pointer (some ⟨z129, 0, none⟩)) ((hb 6 rfl).trans s458) ⟨rfl, HA⟩
                  · intro fA wA lA val (HA : Own _ _ wA lA) hl hb hd
                    refine ⟨rfl, some false, (((hd 10 rfl).v rfl rfl).trans (congrArg Value.bool hc510)), fun _ => ?_, fun he => absurd rfl he⟩
                    refine o_call (args := #[.pointer (some ⟨z129, 0, none⟩)]) rfl Try.func14 rfl (args1 ((hd 11 rfl).v rfl rfl)) (entropy_Source_Drawn_ok (S := SC lA []) z129 z486 r481.2.2.2.1 r481.2.2.2.2 wA (HA.take [] (by decide)) (SC.ok lA []) (AtS.sc0 (HA.bxM (hl 0 _ rfl rfl))) (HA.rowM (hl 1 _ rfl rfl)).sc0 _ h520) ?_
                    rintro _ w ⟨rfl, H⟩
                    exact ⟨rfl, HA.back0 H⟩
                  · intro fA wA lA val (HA : Own _ _ wA lA) hl hb hd
                    refine ⟨rfl, some false, (((hd 10 rfl).v rfl rfl).trans (congrArg Value.bool hc510)), fun _ => ?_, fun he => absurd rfl he⟩
                    exact o_fieldAddr Try.underlying29 rfl sz3 ((hb 7 rfl).trans s459) rfl ⟨rfl, HA⟩
                  · intro fA wA lA val (HA : Own _ _ wA lA) hl hb hd
                    refine ⟨rfl, some false, (((hd 10 rfl).v rfl rfl).trans (congrArg Value.bool hc510)), fun _ => ?_, fun he => absurd rfl he⟩
                    exact o_load Try.underlying3 rfl ((hd 13 rfl).v rfl rfl) ((HA.bxM (hl 3 _ rfl rfl)).one 1 rfl) ⟨rfl, HA⟩
                  · intro fA wA lA val (HA : Own _ _ wA lA) hl hb hd
                    refine ⟨rfl, some false, (((hd 10 rfl).v rfl rfl).trans (congrArg Value.bool hc510)), fun _ => ?_, fun he => absurd rfl he⟩
                    exact o_neq ((hd 12 rfl).1.trans (hd 12 rfl).2.1) ((hd 14 rfl).v rfl rfl) ⟨rfl, HA⟩
                  · intro fA wA lA val (HA : Own _ _ wA lA) hl hb hd
                    exact o_pickE (v := .bool (!decide (r519 = r481.2.1))) (((hd 10 rfl).v rfl rfl).trans (congrArg Value.bool hc510)) ((hd 15 rfl).v rfl rfl) ⟨rfl, HA⟩
                  · intro f522 w523 val521 H524 hd525 hb526
                    have H527 : Own w483 (footU [bx z129 [z486, i64 r481.2.2.2.2], row 1 z486 (r481.2.2.2.1).length (cel E8 r481.2.2.2.1), bx g475 [i64 y464.1, v472], bx g134 [v355, i64 x358]]) w523 [bx z129 [z486, i64 r481.2.2.2.2], row 1 z486 (r481.2.2.2.1).length (cel E8 r481.2.2.2.1), bx g475 [i64 y464.1, v472], bx g134 [z485, i64 r481.2.1]] := H524
                    refine L_nil ?_
                    refine C_cond (fin_v (hd525 16 (by decide)) rfl) (fun hc528 => ?_) (fun hc528 => ?_)
                    · replace hF := (ifT hc528).symm.trans hF
                      refine C_seq ?_
                      refine C_region rfl ?_
                      refine L_op (o_assignE (v := .bool false) rfl ?_)
                      refine L_nil ?_
                      refine C_ret ?_
                      have hr := Option.some.inj hF
                      subst hr
                      have hr := Option.some.inj hO449
                      subst hr
                      exact ⟨_, resR1 rfl rfl, rfl, (H491.trans H527).pick [] (by decide)⟩
                    · replace hF := (ifF hc528).symm.trans hF
                      refine C_skip ?_
                      refine C_region rfl ?_
                      refine L_op (o_add ((hb526 38 rfl).trans s462) rfl ?_)
                      refine L_op (o_moveE (v := i64 (w64 (x360 + 1))) rfl ?_)
                      refine L_nil ?_
                      exact ⟨k, Nat.lt_succ_self k, ⟨r481.2.2.2.1, r481.2.2.2.2, r481.1, r481.2.1, w64 (x360 + 1), z486, z485, hF, ((hb526 6 rfl).trans s458), ((hb526 7 rfl).trans s459), ((hb526 36 rfl).trans s460), ((hb526 37 rfl).trans s461), rfl, (((q496.now H527)).lessP [0, 1, 3]), (((q493.now H527)).lessP [0, 1, 3]), (H491.trans H527).pick [0, 1, 3] (by decide)⟩⟩
            · replace hF := (ifF hc463).symm.trans hF
              refine C_exit ?_
              have hr529 := Option.some.inj hF
              subst hr529
              exact ⟨(), rfl, (HB457.trans HB457.fresh).pick [] (by decide)⟩
      · rintro f530 w531 ⟨o450, rfl, HB532⟩
        have hF := hO449
        refine C_seq ?_
        refine C_region rfl ?_
        obtain ⟨r533, h534, hF⟩ := bindE hF
        refine L_op (o_call (args := #[]) rfl Try.func10 rfl (args0 ) (hypogeumlaw08_awake_ok (S := SC [] [])  w531 (HB532.fresh.take [] (by decide)) (SC.ok _ [])  _ h534) ?_)
        rintro _ w535 ⟨rfl, H537⟩
        have H536 : Own w531 (footU []) w535 [] := HB532.fresh.back [] H537
        refine L_op (o_assignE (v := .bool r533) rfl ?_)
        refine L_nil ?_
        refine C_ret ?_
        have hr := Option.some.inj hF
        subst hr
        exact ⟨_, resR1 rfl rfl, rfl, (HB532.trans H536).pick [] (by decide)⟩
def F_hypogeumlaw08_EntropyOnce_l0 (p_b : List (Int × List UInt8)) : Nat → (List UInt8) → Int → (List UInt8) → (List UInt8) → Int → Option ((List UInt8 × Int × List UInt8 × List UInt8) ⊕ Bool)
  | 0, _, _, _, _, _ => none
  | k + 1, x265, x267, x269, x272, x275 =>
    if (decide (x275 < (((p_b).length : Int)))) = true then
    (getI p_b x275).bind fun y414 =>
    if (decide (y414.1 < (-9))) = true then
    (appI 140737488355328 [] y414.2).bind fun y436 =>
    (F_entropy_Source_More x265 x267 y436).bind fun r445 =>
    (appI 140737488355328 x269 y414.2).bind fun y453 =>
    F_hypogeumlaw08_EntropyOnce_l0 p_b k r445.1 r445.2 y453 x272 (w64 (x275 + 1))
    else
    (F_entropy_Source_Left x265 x267).bind fun r460 =>
    (F_entropy_Source_Draw x265 x267 y414.1).bind fun r465 =>
    (appI 140737488355328 x272 r465.1).bind fun y475 =>
    if (!decide (r465.2.1 = 0)) = true then
    if (!decide ((((r465.1).length : Int)) = 0)) = true then
    some (.inr false)
    else
    (F_entropy_Source_Left r465.2.2.1 r465.2.2.2).bind fun r485 =>
    if (!decide (r485 = r460)) = true then
    some (.inr false)
    else
    if (decide (r465.2.1 = 0)) = true then
    if (!decide ((((r465.1).length : Int)) = y414.1)) = true then
    some (.inr false)
    else
    F_hypogeumlaw08_EntropyOnce_l0 p_b k r465.2.2.1 r465.2.2.2 x269 y475 (w64 (x275 + 1))
    else
    F_hypogeumlaw08_EntropyOnce_l0 p_b k r465.2.2.1 r465.2.2.2 x269 y475 (w64 (x275 + 1))
    else
    if (decide (r465.2.1 = 0)) = true then
    if (!decide ((((r465.1).length : Int)) = y414.1)) = true then
    some (.inr false)
    else
    F_hypogeumlaw08_EntropyOnce_l0 p_b k r465.2.2.1 r465.2.2.2 x269 y475 (w64 (x275 + 1))
    else
    F_hypogeumlaw08_EntropyOnce_l0 p_b k r465.2.2.1 r465.2.2.2 x269 y475 (w64 (x275 + 1))
    else
    some (.inl (x265, x267, x269, x272))
def F_hypogeumlaw08_EntropyOnce (k : Nat) (p_a : List UInt8) (p_b : List (Int × List UInt8)) : Option (Bool) :=
  (F_hypogeumlaw08_few k p_a p_b).bind fun r101 =>
  if (!r101) = true then
  (F_hypogeumlaw08_awake).bind fun r107 =>
  some r107
  else
  (appI 140737488355328 [] p_a).bind fun y116 =>
  (F_entropy_New y116).bind fun r125 =>
  (appI 140737488355328 [] p_a).bind fun y138 =>
  (F_hypogeumlaw08_EntropyOnce_l0 p_b k r125.1 r125.2 y138 [] 0).bind fun out394 =>
  match out394 with
  | .inr r => some r
  | .inl o397 =>
  if (decide ((((o397.2.2.2).length : Int)) ≤ (((o397.2.2.1).length : Int)))) = true then
  (subI o397.2.2.1 0 (((o397.2.2.2).length : Int))).bind fun y506 =>
  if (decide (o397.2.2.2 = y506)) = true then
  (F_entropy_Source_Left o397.1 o397.2.1).bind fun r516 =>
  if (decide (r516 = (w64 ((((o397.2.2.1).length : Int)) - (((o397.2.2.2).length : Int)))))) = true then
  (F_entropy_Source_Drawn o397.1 o397.2.1).bind fun r519 =>
  if (decide (r519 = (((o397.2.2.2).length : Int)))) = true then
  (F_hypogeumlaw08_awake).bind fun r522 =>
  some r522
  else
  some false
  else
  some false
  else
  some false
  else
  some false
theorem hypogeumlaw08_EntropyOnce_ok (k : Nat) {S : Nat → Prop} (vp_a : Value) (p_a : List UInt8) (vp_b : Value) (p_b : List (Int × List UInt8)) (w : World) (H0 : Own w (footU []) w []) (hS : ∀ b, S b → ¬ footU [] b) (hp_a : Sl S w vp_a p_a.length (cel E8 p_a)) (hp_b : RSl (RP (.ofEnc EI) (RS (.ofEnc E8))) S w vp_b p_b) (r : Bool) (hF : F_hypogeumlaw08_EntropyOnce k p_a p_b = some r) :
    Calls Try.prog 4 #[vp_a, vp_b] w (Ret fun v w' => v = .bool r ∧ Own w (footU []) w' []) := by
  have qhp_a := hp_a.in (o := (footU [])) (w0 := w) (l := []) hS
  have qhp_b := hp_b.in (o := (footU [])) (w0 := w) (l := []) hS
  refine calls_C Try.func4 rfl Try.ntmps4 rfl ?_
  unfold F_hypogeumlaw08_EntropyOnce at hF
  refine C_seq ?_
  refine C_region rfl ?_
  refine L_op (o_assignE (v := .bool false) rfl ?_)
  refine L_nil ?_
  refine C_seq ?_
  refine C_seq ?_
  refine C_region rfl ?_
  refine L_op (o_moveE (v := vp_a) rfl ?_)
  refine L_op (o_moveE (v := vp_b) rfl ?_)
  obtain ⟨r101, h102, hF⟩ := bindE hF
  refine L_op (o_call (args := #[vp_a, vp_b]) rfl Try.func9 rfl (args2 rfl rfl) (hypogeumlaw08_few_ok k (S := SC [] []) vp_a p_a vp_b p_b w (H0.take [] (by decide)) (SC.ok _ []) ((qhp_a.now H0).sc []) ((qhp_b.now H0).sc []) _ h102) ?_)
  rintro _ w103 ⟨rfl, H105⟩
  have H104 : Own w (footU []) w103 [] := H0.back [] H105
  refine L_op (o_not rfl ?_)
  refine L_nil ?_
  refine C_cond rfl (fun hc106 => ?_) (fun hc106 => ?_)
  · replace hF := (ifT hc106).symm.trans hF
    refine C_seq ?_
    refine C_region rfl ?_
    obtain ⟨r107, h108, hF⟩ := bindE hF
    refine L_op (o_call (args := #[]) rfl Try.func10 rfl (args0 ) (hypogeumlaw08_awake_ok (S := SC [] [])  w103 (H104.take [] (by decide)) (SC.ok _ [])  _ h108) ?_)
    rintro _ w109 ⟨rfl, H111⟩
    have H110 : Own w (footU []) w109 [] := H104.back [] H111
    refine L_op (o_assignE (v := .bool r107) rfl ?_)
    refine L_nil ?_
    refine C_ret ?_
    have hr := Option.some.inj hF
    subst hr
    exact ⟨_, resR1 rfl rfl, rfl, (H110).pick [] (by decide)⟩
  · replace hF := (ifF hc106).symm.trans hF
    refine C_skip ?_
    refine C_seq ?_
    refine C_region rfl ?_
    refine L_op (o_slice0 el22 H104 ?_)
    intro v112 w113 hv114 H115
    refine L_op (o_moveE (v := vp_a) rfl ?_)
    obtain ⟨y116, h117, hF⟩ := bindE hF
    obtain ⟨h118, h119⟩ := appI_some h117
    have H120 := H115.nilRow 1 (v := v112) hv114
    refine L_op (o_appendE (E := E8) (k := 0) el22 rfl H120 rfl rfl ((qhp_a.now H120)) (h118) h119 ?_)
    rintro v122 w123 _ rfl (H124 : Own w (footU []) w123 [row 1 v122 (y116).length (cel E8 y116)])
    obtain ⟨r125, h126, hF⟩ := bindE hF
    refine L_op (o_call (args := #[v122]) rfl Try.func11 rfl (args1 rfl) (entropy_New_ok (S := SC [row 1 v122 (y116).length (cel E8 y116)] []) v122 y116 w123 (H124.take [] (by decide)) (SC.ok _ []) (H124.rowSCM (mem 0 rfl) [] (k := 0) rfl rfl) _ h126) ?_)
    rintro _ w127 ⟨z129, z130, rfl, H131⟩
    have H128 : Own w (footU []) w127 [bx z129 [z130, i64 r125.2], row 1 z130 (r125.1).length (cel E8 r125.1), row 1 v122 (y116).length (cel E8 y116)] := H124.back [] H131
    refine L_op (o_assignE (v := .pointer (some ⟨z129, 0, none⟩)) rfl ?_)
    refine L_nil ?_
    refine C_seq ?_
    refine C_region rfl ?_
    refine L_op (o_slice0 el22 H128 ?_)
    intro v134 w135 hv136 H137
    refine L_op (o_moveE (v := vp_a) rfl ?_)
    obtain ⟨y138, h139, hF⟩ := bindE hF
    obtain ⟨h140, h141⟩ := appI_some h139
    have H142 := H137.nilRow 1 (v := v134) hv136
    refine L_op (o_appendE (E := E8) (k := 0) el22 rfl H142 rfl rfl ((qhp_a.now H142)) (h140) h141 ?_)
    rintro v144 w145 _ rfl (H146 : Own w (footU []) w145 [row 1 v144 (y138).length (cel E8 y138), bx z129 [z130, i64 r125.2], row 1 z130 (r125.1).length (cel E8 r125.1), row 1 v122 (y116).length (cel E8 y116)])
    refine L_op (o_slice0 el22 H146 ?_)
    intro v147 w148 hv149 H150
    refine L_op (o_assignE (v := v144) rfl ?_)
    refine L_op (o_assignE (v := v147) rfl ?_)
    refine L_nil ?_
    refine C_seq ?_
    refine C_seq ?_
    refine C_region rfl ?_
    refine L_op (o_moveE (v := vp_b) rfl ?_)
    refine L_op (o_lenSl Try.underlying23 rfl qhp_b.is ?_)
    refine L_op (o_moveE (v := i64 0) rfl ?_)
    refine L_nil ?_
    obtain ⟨out394, hl395, hO396⟩ := bindE hF
    refine C_cut (fun f400 w401 => ∃ o397 : List UInt8 × Int × List UInt8 × List UInt8, out394 = .inl o397 ∧ ∃ (v384 : Value) (v388 : Value) (v391 : Value), f400 5 = .pointer (some ⟨z129, 0, none⟩) ∧ f400 6 = v388 ∧ f400 7 = v391 ∧ Own w (footU []) w401 [bx z129 [v384, i64 o397.2.1], row 1 v384 (o397.1).length (cel E8 o397.1), row 1 v388 (o397.2.2.1).length (cel E8 o397.2.2.1), row 1 v391 (o397.2.2.2).length (cel E8 o397.2.2.2)]) ?_ ?_
    · refine C_block (C_loop (fun k f398 w399 => ∃ (x265 : List UInt8) (x267 : Int) (x269 : List UInt8) (x272 : List UInt8) (x275 : Int) (v264 : Value) (v268 : Value) (v271 : Value), F_hypogeumlaw08_EntropyOnce_l0 p_b k x265 x267 x269 x272 x275 = some out394 ∧ f398 5 = .pointer (some ⟨z129, 0, none⟩) ∧ f398 6 = v268 ∧ f398 7 = v271 ∧ f398 26 = vp_b ∧ f398 27 = i64 (((p_b).length : Int)) ∧ f398 28 = i64 x275 ∧ RSl (RP (.ofEnc EI) (RS (.ofEnc E8))) (TT S (footU []) w [bx z129 [v264, i64 x267], row 1 v264 (x265).length (cel E8 x265), row 1 v268 (x269).length (cel E8 x269), row 1 v271 (x272).length (cel E8 x272)]) w399 vp_b p_b ∧ Own w (footU []) w399 [bx z129 [v264, i64 x267], row 1 v264 (x265).length (cel E8 x265), row 1 v268 (x269).length (cel E8 x269), row 1 v271 (x272).length (cel E8 x272)]) k ?_ ?_)
      ·
        have H402 := H150.nilRow 1 (v := v147) hv149
        exact ⟨r125.1, r125.2, y138, [], 0, z130, v144, v147, hl395, rfl, rfl, rfl, rfl, rfl, rfl, (((qhp_b.now H402)).lessP [2, 3, 1, 0]), (H402).pick [2, 3, 1, 0] (by decide)⟩
      ·
        rintro k f404 w405 ⟨x265, x267, x269, x272, x275, v264, v268, v271, hF, s407, s408, s409, s410, s411, s412, q274, HB406⟩
        cases k with
        | zero => cases hF
        | succ k =>
          rw [F_hypogeumlaw08_EntropyOnce_l0.eq_2] at hF
          refine C_seq ?_
          refine C_region rfl ?_
          refine L_op (o_lss s412 s411 ?_)
          refine L_nil ?_
          refine C_seq ?_
          refine C_cond rfl (fun hc413 => ?_) (fun hc413 => ?_)
          · replace hF := (ifT hc413).symm.trans hF
            refine C_skip ?_
            refine C_seq ?_
            refine C_block ?_
            refine C_seq ?_
            refine C_region rfl ?_
            obtain ⟨y414, h415, hF⟩ := bindE hF
            obtain ⟨h416, h417, h418⟩ := getI_at h415
            obtain ⟨cs419, hat420, hrel421⟩ := q274.atS h418 (by decide)
            obtain ⟨_, _, rfl, rfl, ⟨v422, rfl, q423⟩⟩ := hrel421
            have q424 := rsl_enc q423
            refine L_op (o_indexSl (v := vp_b) Try.underlying23 sz31 s410 q274.is s412 h416 h417 ?_)
            refine L_op (o_loadA Try.underlying31 rfl sz31 rfl ((hat420.now HB406.fresh).at_) rfl ?_)
            refine L_op (o_alloc (cs := [i64 0, .slice none 0 0]) zr31 rfl HB406.fresh ?_)
            intro g425 w426 H427
            refine L_do (o_store (l' := [bx g425 [i64 y414.1, v422], bx z129 [v264, i64 x267], row 1 v264 (x265).length (cel E8 x265), row 1 v268 (x269).length (cel E8 x269), row 1 v271 (x272).length (cel E8 x272)]) (k := 0) (ys := [i64 y414.1, v422]) rfl H427 rfl rfl rfl sz31 (ones_cons rfl (ones_cons (onec q424.is) ones_nil)) (Nat.le_of_ble_eq_true rfl) rfl rfl ?_)
            intro w429 H430
            refine L_nil ?_
            refine C_seq ?_
            refine C_seq ?_
            refine C_region rfl ?_
            refine L_op (o_fieldAddr Try.underlying31 rfl sz3 rfl rfl ?_)
            refine L_op (o_load Try.underlying3 rfl rfl ((H430.bxM (mem 0 rfl)).one 0 rfl) ?_)
            refine L_op (o_lss rfl rfl ?_)
            refine L_nil ?_
            refine C_cond rfl (fun hc431 => ?_) (fun hc431 => ?_)
            · replace hF := (ifT hc431).symm.trans hF
              refine C_seq ?_
              refine C_region rfl ?_
              refine L_op (o_moveE (v := .pointer (some ⟨z129, 0, none⟩)) s407 ?_)
              refine L_op (o_slice0 el22 H430 ?_)
              intro v432 w433 hv434 H435
              refine L_op (o_fieldAddr Try.underlying31 rfl sz22 rfl rfl ?_)
              refine L_op (o_load Try.underlying22 rfl rfl ((H435.bxM (mem 0 rfl)).one 1 rfl) ?_)
              obtain ⟨y436, h437, hF⟩ := bindE hF
              obtain ⟨h438, h439⟩ := appI_some h437
              have H440 := H435.nilRow 1 (v := v432) hv434
              refine L_op (o_appendE (E := E8) (k := 0) el22 rfl H440 rfl rfl ((q424.now H440)) (h438) h439 ?_)
              rintro v442 w443 _ rfl (H444 : Own w405 (footU [bx z129 [v264, i64 x267], row 1 v264 (x265).length (cel E8 x265), row 1 v268 (x269).length (cel E8 x269), row 1 v271 (x272).length (cel E8 x272)]) w443 [row 1 v442 (y436).length (cel E8 y436), bx g425 [i64 y414.1, v422], bx z129 [v264, i64 x267], row 1 v264 (x265).length (cel E8 x265), row 1 v268 (x269).length (cel E8 x269), row 1 v271 (x272).length (cel E8 x272)])
              obtain ⟨r445, h446, hF⟩ := bindE hF
              refine L_op (o_call (args := #[.pointer (some ⟨z129, 0, none⟩), v442]) rfl Try.func15 rfl (args2 rfl rfl) (entropy_Source_More_ok (S := SC [row 1 v442 (y436).length (cel E8 y436), bx g425 [i64 y414.1, v422], bx z129 [v264, i64 x267], row 1 v264 (x265).length (cel E8 x265), row 1 v268 (x269).length (cel E8 x269), row 1 v271 (x272).length (cel E8 x272)] [2, 3]) z129 v264 x265 x267 v442 y436 w443 (H444.take [2, 3] (by decide)) (SC.ok _ [2, 3]) (H444.rowSCM (mem 0 rfl) [2, 3] (k := 0) rfl rfl) _ h446) ?_)
              rintro _ w447 ⟨z449, rfl, H450⟩
              have H448 : Own w405 (footU [bx z129 [v264, i64 x267], row 1 v264 (x265).length (cel E8 x265), row 1 v268 (x269).length (cel E8 x269), row 1 v271 (x272).length (cel E8 x272)]) w447 [bx z129 [z449, i64 r445.2], row 1 z449 (r445.1).length (cel E8 r445.1), row 1 v442 (y436).length (cel E8 y436), bx g425 [i64 y414.1, v422], row 1 v268 (x269).length (cel E8 x269), row 1 v271 (x272).length (cel E8 x272)] := H444.back [2, 3] H450
              refine L_nil ?_
              refine C_seq ?_
              refine C_region rfl ?_
              refine L_op (o_moveE (v := v268) s408 ?_)
              refine L_op (o_fieldAddr Try.underlying31 rfl sz22 rfl rfl ?_)
              refine L_op (o_load Try.underlying22 rfl rfl ((H448.bxM (mem 3 rfl)).one 1 rfl) ?_)
              obtain ⟨y453, h454, hF⟩ := bindE hF
              obtain ⟨h455, h456⟩ := appI_some h454
              refine L_op (o_appendE (E := E8) (k := 4) el22 rfl H448 rfl rfl ((q424.now H448)) (h455) h456 ?_)
              rintro v457 w458 _ rfl (H459 : Own w405 (footU [bx z129 [v264, i64 x267], row 1 v264 (x265).length (cel E8 x265), row 1 v268 (x269).length (cel E8 x269), row 1 v271 (x272).length (cel E8 x272)]) w458 [bx z129 [z449, i64 r445.2], row 1 z449 (r445.1).length (cel E8 r445.1), row 1 v442 (y436).length (cel E8 y436), bx g425 [i64 y414.1, v422], row 1 v457 (y453).length (cel E8 y453), row 1 v271 (x272).length (cel E8 x272)])
              refine L_op (o_assignE (v := v457) rfl ?_)
              refine L_nil ?_
              refine C_exit ?_
              refine C_region rfl ?_
              refine L_op (o_add s412 rfl ?_)
              refine L_op (o_moveE (v := i64 (w64 (x275 + 1))) rfl ?_)
              refine L_nil ?_
              exact ⟨k, Nat.lt_succ_self k, ⟨r445.1, r445.2, y453, x272, w64 (x275 + 1), z449, v457, v271, hF, s407, rfl, s409, s410, s411, rfl, (((q274.now H459)).lessP [0, 1, 4, 5]), (HB406.trans H459).pick [0, 1, 4, 5] (by decide)⟩⟩
            · replace hF := (ifF hc431).symm.trans hF
              refine C_skip ?_
              refine C_seq ?_
              refine C_region rfl ?_
              refine L_op (o_moveE (v := .pointer (some ⟨z129, 0, none⟩)) s407 ?_)
              obtain ⟨r460, h461, hF⟩ := bindE hF
              refine L_op (o_call (args := #[.pointer (some ⟨z129, 0, none⟩)]) rfl Try.func13 rfl (args1 rfl) (entropy_Source_Left_ok (S := SC [bx g425 [i64 y414.1, v422], bx z129 [v264, i64 x267], row 1 v264 (x265).length (cel E8 x265), row 1 v268 (x269).length (cel E8 x269), row 1 v271 (x272).length (cel E8 x272)] []) z129 v264 x265 x267 w429 (H430.take [] (by decide)) (SC.ok _ []) ((H430.bxSCM (mem 1 rfl) [] (k := 1) rfl rfl)) (H430.rowSCM (mem 2 rfl) [] (k := 2) rfl rfl) _ h461) ?_)
              rintro _ w462 ⟨rfl, H464⟩
              have H463 : Own w405 (footU [bx z129 [v264, i64 x267], row 1 v264 (x265).length (cel E8 x265), row 1 v268 (x269).length (cel E8 x269), row 1 v271 (x272).length (cel E8 x272)]) w462 [bx g425 [i64 y414.1, v422], bx z129 [v264, i64 x267], row 1 v264 (x265).length (cel E8 x265), row 1 v268 (x269).length (cel E8 x269), row 1 v271 (x272).length (cel E8 x272)] := H430.back [] H464
              refine L_op (o_assignE (v := i64 r460) rfl ?_)
              refine L_nil ?_
              refine C_seq ?_
              refine C_region rfl ?_
              refine L_op (o_moveE (v := .pointer (some ⟨z129, 0, none⟩)) s407 ?_)
              refine L_op (o_fieldAddr Try.underlying31 rfl sz3 rfl rfl ?_)
              refine L_op (o_load Try.underlying3 rfl rfl ((H463.bxM (mem 0 rfl)).one 0 rfl) ?_)
              obtain ⟨r465, h466, hF⟩ := bindE hF
              refine L_op (o_call (args := #[.pointer (some ⟨z129, 0, none⟩), i64 y414.1]) rfl Try.func16 rfl (args2 rfl rfl) (entropy_Source_Draw_ok (S := SC [bx g425 [i64 y414.1, v422], bx z129 [v264, i64 x267], row 1 v264 (x265).length (cel E8 x265), row 1 v268 (x269).length (cel E8 x269), row 1 v271 (x272).length (cel E8 x272)] [1, 2]) z129 v264 x265 x267 y414.1 w462 (H463.take [1, 2] (by decide)) (SC.ok _ [1, 2])  _ h466) ?_)
              rintro _ w467 ⟨z469, z470, rfl, H471⟩
              have H468 : Own w405 (footU [bx z129 [v264, i64 x267], row 1 v264 (x265).length (cel E8 x265), row 1 v268 (x269).length (cel E8 x269), row 1 v271 (x272).length (cel E8 x272)]) w467 [row 1 z469 (r465.1).length (cel E8 r465.1), bx z129 [z470, i64 r465.2.2.2], row 1 z470 (r465.2.2.1).length (cel E8 r465.2.2.1), bx g425 [i64 y414.1, v422], row 1 v268 (x269).length (cel E8 x269), row 1 v271 (x272).length (cel E8 x272)] := H463.back [1, 2] H471
              refine L_op (o_moveE (v := .tuple #[z469, i64 r465.2.1]) rfl ?_)
              refine L_op (o_extract rfl rfl ?_)
              refine L_op (o_extract rfl rfl ?_)
              refine L_op (o_assignE (v := z469) rfl ?_)
              refine L_op (o_assignE (v := i64 r465.2.1) rfl ?_)
              refine L_nil ?_
              refine C_seq ?_
              refine C_region rfl ?_
              refine L_op (o_moveE (v := v271) s409 ?_)
              refine L_op (o_moveE (v := z469) rfl ?_)
              obtain ⟨y475, h476, hF⟩ := bindE hF
              obtain ⟨h477, h478⟩ := appI_some h476
              refine L_op (o_appendE (E := E8) (k := 5) el22 rfl H468 rfl rfl (H468.rowM (mem 0 rfl)) (h477) h478 ?_)
              rintro v479 w480 _ rfl (H481 : Own w405 (footU [bx z129 [v264, i64 x267], row 1 v264 (x265).length (cel E8 x265), row 1 v268 (x269).length (cel E8 x269), row 1 v271 (x272).length (cel E8 x272)]) w480 [row 1 z469 (r465.1).length (cel E8 r465.1), bx z129 [z470, i64 r465.2.2.2], row 1 z470 (r465.2.2.1).length (cel E8 r465.2.2.1), bx g425 [i64 y414.1, v422], row 1 v268 (x269).length (cel E8 x269), row 1 v479 (y475).length (cel E8 y475)])
              refine L_op (o_assignE (v := v479) rfl ?_)
              refine L_nil ?_
              refine C_seq ?_
              refine C_region rfl ?_
              refine L_op (o_moveE (v := i64 r465.2.1) rfl ?_)
              refine L_op (o_neq rfl rfl ?_)
              refine L_op (o_moveE (v := .bool (!decide (r465.2.1 = 0))) rfl ?_)
              rcases Bool.eq_false_or_eq_true (!decide (r465.2.1 = 0)) with hc482 | hc482
              · replace hF := (ifT hc482).symm.trans hF
                refine L_on rfl (congrArg Value.bool hc482) (o_moveE (v := z469) rfl ?_)
                refine L_on rfl (congrArg Value.bool hc482) (o_lenSl Try.underlying22 rfl (H481.rowIsM (mem 0 rfl)) ?_)
                refine L_on rfl (congrArg Value.bool hc482) (o_neq rfl rfl ?_)
                refine L_on rfl (congrArg Value.bool hc482) (o_moveE (v := .bool (!decide ((((r465.1).length : Int)) = 0))) rfl ?_)
                rcases Bool.eq_false_or_eq_true (!decide ((((r465.1).length : Int)) = 0)) with hc483 | hc483
                · replace hF := (ifT hc483).symm.trans hF
                  refine L_off rfl (congrArg Value.bool hc483) ?_
                  refine L_off rfl (congrArg Value.bool hc483) ?_
                  refine L_off rfl (congrArg Value.bool hc483) ?_
                  refine L_off rfl (congrArg Value.bool hc483) ?_
                  refine L_on rfl (congrArg Value.bool hc482) (o_pickE (v := .bool true) (congrArg Value.bool hc483) rfl ?_)
                  refine L_op (o_pickE (v := .bool true) (congrArg Value.bool hc482) rfl ?_)
                  refine L_op (o_moveE (v := .bool true) rfl ?_)
                  refine L_off rfl rfl ?_
                  refine L_off rfl rfl ?_
                  refine L_off rfl rfl ?_
                  refine L_offU rfl rfl ?_
                  refine L_offU rfl rfl ?_
                  refine L_offU rfl rfl ?_
                  refine L_offU rfl rfl ?_
                  refine L_offU rfl rfl ?_
                  refine L_off rfl rfl ?_
                  refine L_op (o_pickE (v := .bool true) rfl rfl ?_)
                  refine L_nil ?_
                  refine C_cond (b := true) rfl (fun hc484 => ?_) (fun hc484 => ?_)
                  rotate_left
                  · cases hc484
                  refine C_seq ?_
                  refine C_region rfl ?_
                  refine L_op (o_assignE (v := .bool false) rfl ?_)
                  refine L_nil ?_
                  refine C_ret ?_
                  have hr := Option.some.inj hF
                  subst hr
                  have hr := Option.some.inj hO396
                  subst hr
                  exact ⟨_, resR1 rfl rfl, rfl, (HB406.trans H481).pick [] (by decide)⟩
                · replace hF := (ifF hc483).symm.trans hF
                  refine L_on rfl (congrArg Value.bool hc483) (o_moveE (v := .pointer (some ⟨z129, 0, none⟩)) s407 ?_)
                  obtain ⟨r485, h486, hF⟩ := bindE hF
                  refine L_on rfl (congrArg Value.bool hc483) (o_call (args := #[.pointer (some ⟨z129, 0, none⟩)]) rfl Try.func13 rfl (args1 rfl) (entropy_Source_Left_ok (S := SC [row 1 z469 (r465.1).length (cel E8 r465.1), bx z129 [z470, i64 r465.2.2.2], row 1 z470 (r465.2.2.1).length (cel E8 r465.2.2.1), bx g425 [i64 y414.1, v422], row 1 v268 (x269).length (cel E8 x269), row 1 v479 (y475).length (cel E8 y475)] []) z129 z470 r465.2.2.1 r465.2.2.2 w480 (H481.take [] (by decide)) (SC.ok _ []) ((H481.bxSCM (mem 1 rfl) [] (k := 1) rfl rfl)) (H481.rowSCM (mem 2 rfl) [] (k := 2) rfl rfl) _ h486) ?_)
                  rintro _ w487 ⟨rfl, H489⟩
                  have H488 : Own w405 (footU [bx z129 [v264, i64 x267], row 1 v264 (x265).length (cel E8 x265), row 1 v268 (x269).length (cel E8 x269), row 1 v271 (x272).length (cel E8 x272)]) w487 [row 1 z469 (r465.1).length (cel E8 r465.1), bx z129 [z470, i64 r465.2.2.2], row 1 z470 (r465.2.2.1).length (cel E8 r465.2.2.1), bx g425 [i64 y414.1, v422], row 1 v268 (x269).length (cel E8 x269), row 1 v479 (y475).length (cel E8 y475)] := H481.back [] H489
                  refine L_on rfl (congrArg Value.bool hc483) (o_moveE (v := i64 r460) rfl ?_)
                  refine L_on rfl (congrArg Value.bool hc483) (o_neq rfl rfl ?_)
                  refine L_on rfl (congrArg Value.bool hc482) (o_pickE (v := .bool (!decide (r485 = r460))) (congrArg Value.bool hc483) rfl ?_)
                  refine L_op (o_pickE (v := .bool (!decide (r485 = r460))) (congrArg Value.bool hc482) rfl ?_)
                  refine L_op (o_moveE (v := .bool (!decide (r485 = r460))) rfl ?_)
                  rcases Bool.eq_false_or_eq_true (!decide (r485 = r460)) with hc490 | hc490
                  · replace hF := (ifT hc490).symm.trans hF
                    refine L_off rfl (congrArg Value.bool hc490) ?_
                    refine L_off rfl (congrArg Value.bool hc490) ?_
                    refine L_off rfl (congrArg Value.bool hc490) ?_
                    refine L_offU rfl rfl ?_
                    refine L_offU rfl rfl ?_
                    refine L_offU rfl rfl ?_
                    refine L_offU rfl rfl ?_
                    refine L_offU rfl rfl ?_
                    refine L_off rfl (congrArg Value.bool hc490) ?_
                    refine L_op (o_pickE (v := .bool true) (congrArg Value.bool hc490) rfl ?_)
                    refine L_nil ?_
                    refine C_cond (b := true) rfl (fun hc491 => ?_) (fun hc491 => ?_)
                    rotate_left
                    · cases hc491
                    refine C_seq ?_
                    refine C_region rfl ?_
                    refine L_op (o_assignE (v := .bool false) rfl ?_)
                    refine L_nil ?_
                    refine C_ret ?_
                    have hr := Option.some.inj hF
                    subst hr
                    have hr := Option.some.inj hO396
                    subst hr
                    exact ⟨_, resR1 rfl rfl, rfl, (HB406.trans H488).pick [] (by decide)⟩
                  · replace hF := (ifF hc490).symm.trans hF
                    refine L_on rfl (congrArg Value.bool hc490) (o_moveE (v := i64 r465.2.1) rfl ?_)
                    refine L_on rfl (congrArg Value.bool hc490) (o_eql rfl rfl ?_)
                    refine L_on rfl (congrArg Value.bool hc490) (o_moveE (v := .bool (decide (r465.2.1 = 0))) rfl ?_)
                    rcases Bool.eq_false_or_eq_true (decide (r465.2.1 = 0)) with hc492 | hc492
                    · replace hF := (ifT hc492).symm.trans hF
                      refine L_on rfl (congrArg Value.bool hc492) (o_moveE (v := z469) rfl ?_)
                      refine L_on rfl (congrArg Value.bool hc492) (o_lenSl Try.underlying22 rfl (H488.rowIsM (mem 0 rfl)) ?_)
                      refine L_on rfl (congrArg Value.bool hc492) (o_fieldAddr Try.underlying31 rfl sz3 rfl rfl ?_)
                      refine L_on rfl (congrArg Value.bool hc492) (o_load Try.underlying3 rfl rfl ((H488.bxM (mem 3 rfl)).one 0 rfl) ?_)
                      refine L_on rfl (congrArg Value.bool hc492) (o_neq rfl rfl ?_)
                      refine L_on rfl (congrArg Value.bool hc490) (o_pickE (v := .bool (!decide ((((r465.1).length : Int)) = y414.1))) (congrArg Value.bool hc492) rfl ?_)
                      refine L_op (o_pickE (v := .bool (!decide ((((r465.1).length : Int)) = y414.1))) (congrArg Value.bool hc490) rfl ?_)
                      refine L_nil ?_
                      refine C_cond rfl (fun hc493 => ?_) (fun hc493 => ?_)
                      · replace hF := (ifT hc493).symm.trans hF
                        refine C_seq ?_
                        refine C_region rfl ?_
                        refine L_op (o_assignE (v := .bool false) rfl ?_)
                        refine L_nil ?_
                        refine C_ret ?_
                        have hr := Option.some.inj hF
                        subst hr
                        have hr := Option.some.inj hO396
                        subst hr
                        exact ⟨_, resR1 rfl rfl, rfl, (HB406.trans H488).pick [] (by decide)⟩
                      · replace hF := (ifF hc493).symm.trans hF
                        refine C_skip ?_
                        refine C_region rfl ?_
                        refine L_op (o_add s412 rfl ?_)
                        refine L_op (o_moveE (v := i64 (w64 (x275 + 1))) rfl ?_)
                        refine L_nil ?_
                        exact ⟨k, Nat.lt_succ_self k, ⟨r465.2.2.1, r465.2.2.2, x269, y475, w64 (x275 + 1), z470, v268, v479, hF, s407, s408, rfl, s410, s411, rfl, (((q274.now H488)).lessP [1, 2, 4, 5]), (HB406.trans H488).pick [1, 2, 4, 5] (by decide)⟩⟩
                    · replace hF := (ifF hc492).symm.trans hF
                      refine L_off rfl (congrArg Value.bool hc492) ?_
                      refine L_off rfl (congrArg Value.bool hc492) ?_
                      refine L_off rfl (congrArg Value.bool hc492) ?_
                      refine L_off rfl (congrArg Value.bool hc492) ?_
                      refine L_off rfl (congrArg Value.bool hc492) ?_
                      refine L_on rfl (congrArg Value.bool hc490) (o_pickE (v := .bool false) (congrArg Value.bool hc492) rfl ?_)
                      refine L_op (o_pickE (v := .bool false) (congrArg Value.bool hc490) rfl ?_)
                      refine L_nil ?_
                      refine C_cond (b := false) rfl (fun hc494 => ?_) (fun hc494 => ?_)
                      · cases hc494
                      refine C_skip ?_
                      refine C_region rfl ?_
                      refine L_op (o_add s412 rfl ?_)
                      refine L_op (o_moveE (v := i64 (w64 (x275 + 1))) rfl ?_)
                      refine L_nil ?_
                      exact ⟨k, Nat.lt_succ_self k, ⟨r465.2.2.1, r465.2.2.2, x269, y475, w64 (x275 + 1), z470, v268, v479, hF, s407, s408, rfl, s410, s411, rfl, (((q274.now H488)).lessP [1, 2, 4, 5]), (HB406.trans H488).pick [1, 2, 4, 5] (by decide)⟩⟩
              · replace hF := (ifF hc482).symm.trans hF
                refine L_off rfl (congrArg Value.bool hc482) ?_
                refine L_off rfl (congrArg Value.bool hc482) ?_
                refine L_off rfl (congrArg Value.bool hc482) ?_
                refine L_off rfl (congrArg Value.bool hc482) ?_
                refine L_offU rfl rfl ?_
                refine L_offU rfl rfl ?_
                refine L_offU rfl rfl ?_
                refine L_offU rfl rfl ?_
                refine L_off rfl (congrArg Value.bool hc482) ?_
                refine L_op (o_pickE (v := .bool false) (congrArg Value.bool hc482) rfl ?_)
                refine L_op (o_moveE (v := .bool false) rfl ?_)
                refine L_on rfl rfl (o_moveE (v := i64 r465.2.1) rfl ?_)
                refine L_on rfl rfl (o_eql rfl rfl ?_)
                refine L_on rfl rfl (o_moveE (v := .bool (decide (r465.2.1 = 0))) rfl ?_)
                rcases Bool.eq_false_or_eq_true (decide (r465.2.1 = 0)) with hc495 | hc495
                · replace hF := (ifT hc495).symm.trans hF
                  refine L_on rfl (congrArg Value.bool hc495) (o_moveE (v := z469) rfl ?_)
                  refine L_on rfl (congrArg Value.bool hc495) (o_lenSl Try.underlying22 rfl (H481.rowIsM (mem 0 rfl)) ?_)
                  refine L_on rfl (congrArg Value.bool hc495) (o_fieldAddr Try.underlying31 rfl sz3 rfl rfl ?_)
                  refine L_on rfl (congrArg Value.bool hc495) (o_load Try.underlying3 rfl rfl ((H481.bxM (mem 3 rfl)).one 0 rfl) ?_)
                  refine L_on rfl (congrArg Value.bool hc495) (o_neq rfl rfl ?_)
                  refine L_on rfl rfl (o_pickE (v := .bool (!decide ((((r465.1).length : Int)) = y414.1))) (congrArg Value.bool hc495) rfl ?_)
                  refine L_op (o_pickE (v := .bool (!decide ((((r465.1).length : Int)) = y414.1))) rfl rfl ?_)
                  refine L_nil ?_
                  refine C_cond rfl (fun hc496 => ?_) (fun hc496 => ?_)
                  · replace hF := (ifT hc496).symm.trans hF
                    refine C_seq ?_
                    refine C_region rfl ?_
                    refine L_op (o_assignE (v := .bool false) rfl ?_)
                    refine L_nil ?_
                    refine C_ret ?_
                    have hr := Option.some.inj hF
                    subst hr
                    have hr := Option.some.inj hO396
                    subst hr
                    exact ⟨_, resR1 rfl rfl, rfl, (HB406.trans H481).pick [] (by decide)⟩
                  · replace hF := (ifF hc496).symm.trans hF
                    refine C_skip ?_
                    refine C_region rfl ?_
                    refine L_op (o_add s412 rfl ?_)
                    refine L_op (o_moveE (v := i64 (w64 (x275 + 1))) rfl ?_)
                    refine L_nil ?_
                    exact ⟨k, Nat.lt_succ_self k, ⟨r465.2.2.1, r465.2.2.2, x269, y475, w64 (x275 + 1), z470, v268, v479, hF, s407, s408, rfl, s410, s411, rfl, (((q274.now H481)).lessP [1, 2, 4, 5]), (HB406.trans H481).pick [1, 2, 4, 5] (by decide)⟩⟩
                · replace hF := (ifF hc495).symm.trans hF
                  refine L_off rfl (congrArg Value.bool hc495) ?_
                  refine L_off rfl (congrArg Value.bool hc495) ?_
                  refine L_off rfl (congrArg Value.bool hc495) ?_
                  refine L_off rfl (congrArg Value.bool hc495) ?_
                  refine L_off rfl (congrArg Value.bool hc495) ?_
                  refine L_on rfl rfl (o_pickE (v := .bool false) (congrArg Value.bool hc495) rfl ?_)
                  refine L_op (o_pickE (v := .bool false) rfl rfl ?_)
                  refine L_nil ?_
                  refine C_cond (b := false) rfl (fun hc497 => ?_) (fun hc497 => ?_)
                  · cases hc497
                  refine C_skip ?_
                  refine C_region rfl ?_
                  refine L_op (o_add s412 rfl ?_)
                  refine L_op (o_moveE (v := i64 (w64 (x275 + 1))) rfl ?_)
                  refine L_nil ?_
                  exact ⟨k, Nat.lt_succ_self k, ⟨r465.2.2.1, r465.2.2.2, x269, y475, w64 (x275 + 1), z470, v268, v479, hF, s407, s408, rfl, s410, s411, rfl, (((q274.now H481)).lessP [1, 2, 4, 5]), (HB406.trans H481).pick [1, 2, 4, 5] (by decide)⟩⟩
          · replace hF := (ifF hc413).symm.trans hF
            refine C_exit ?_
            have hr498 := Option.some.inj hF
            subst hr498
            exact ⟨(x265, x267, x269, x272), rfl, v264, v268, v271, s407, s408, s409, (HB406.trans HB406.fresh).pick [0, 1, 2, 3] (by decide)⟩
    · rintro f499 w500 ⟨o397, rfl, v384, v388, v391, s502, s503, s504, HB501⟩
      have hF := hO396
      refine C_seq ?_
      rcases Bool.eq_false_or_eq_true (decide ((((o397.2.2.2).length : Int)) ≤ (((o397.2.2.1).length : Int)))) with hc505 | hc505
      · replace hF := (ifT hc505).symm.trans hF
        obtain ⟨y506, h507, hF⟩ := bindE hF
        obtain ⟨a508, b509, h510, h511, h512, h513, h514⟩ := subI_some h507
        rcases Bool.eq_false_or_eq_true (decide (o397.2.2.2 = y506)) with hc515 | hc515
        · replace hF := (ifT hc515).symm.trans hF
          obtain ⟨r516, h517, hF⟩ := bindE hF
          rcases Bool.eq_false_or_eq_true (decide (r516 = (w64 ((((o397.2.2.1).length : Int)) - (((o397.2.2.2).length : Int)))))) with hc518 | hc518
          · replace hF := (ifT hc518).symm.trans hF
            obtain ⟨r519, h520, hF⟩ := bindE hF
            rcases Bool.eq_false_or_eq_true (decide (r519 = (((o397.2.2.2).length : Int)))) with hc521 | hc521
            · replace hF := (ifT hc521).symm.trans hF
              obtain ⟨r522, h523, hF⟩ := bindE hF
              refine C_any (nb := 4) 36 [qv [] (v391), qv [0] (i64 (((o397.2.2.2).length : Int))), qv [] (v388), qv [2] (i64 (((o397.2.2.1).length : Int))), qv [0, 1, 2, 3] (.bool (decide ((((o397.2.2.2).length : Int)) ≤ (((o397.2.2.1).length : Int))))), qv [0, 1, 2, 3, 4] (.bool (decide ((((o397.2.2.2).length : Int)) ≤ (((o397.2.2.1).length : Int))))), qv [0, 1, 2, 3, 4, 5] (v391), qv [0, 1, 2, 3, 4, 5, 6] (str o397.2.2.2), qv [0, 1, 2, 3, 4, 5] (v388), qv [0, 1, 2, 3, 4, 5] (v391), qv [0, 1, 2, 3, 4, 5, 9] (i64 (((o397.2.2.2).length : Int))), qv [0, 1, 2, 3, 4, 5, 8, 9, 10] ((subv 1 v388 a508 b509)), qv [0, 1, 2, 3, 4, 5, 8, 9, 10, 11] (str y506), qv [0, 1, 2, 3, 4, 5, 6, 7, 8, 9, 10, 11, 12] (.bool (decide (o397.2.2.2 = y506))), qv [0, 1, 2, 3, 4, 5, 6, 7, 8, 9, 10, 11, 12, 13] (.bool (decide (o397.2.2.2 = y506))), qv [0, 1, 2, 3, 4, 5, 6, 7, 8, 9, 10, 11, 12, 13, 14] (.bool (decide (o397.2.2.2 = y506))), qv [0, 1, 2, 3, 4, 5, 6, 7, 8, 9, 10, 11, 12, 13, 14, 15] (.pointer (some ⟨z129, 0, none⟩)), ⟨[0, 1, 2, 3, 4, 5, 6, 7, 8, 9, 10, 11, 12, 13, 14, 15, 16], [], fun vs v => v = i64 r516, fun vs v => [], []⟩, qv [0, 1, 2, 3, 4, 5, 6, 7, 8, 9, 10, 11, 12, 13, 14, 15] (v388), qv [0, 1, 2, 3, 4, 5, 6, 7, 8, 9, 10, 11, 12, 13, 14, 15, 18] (i64 (((o397.2.2.1).length : Int))), qv [0, 1, 2, 3, 4, 5, 6, 7, 8, 9, 10, 11, 12, 13, 14, 15] (v391), qv [0, 1, 2, 3, 4, 5, 6, 7, 8, 9, 10, 11, 12, 13, 14, 15, 20] (i64 (((o397.2.2.2).length : Int))), qv [0, 1, 2, 3, 4, 5, 6, 7, 8, 9, 10, 11, 12, 13, 14, 15, 18, 19, 20, 21] (i64 (w64 ((((o397.2.2.1).length : Int)) - (((o397.2.2.2).length : Int))))), qv [0, 1, 2, 3, 4, 5, 6, 7, 8, 9, 10, 11, 12, 13, 14, 15, 16, 17, 18, 19, 20, 21, 22] (.bool (decide (r516 = (w64 ((((o397.2.2.1).length : Int)) - (((o397.2.2.2).length : Int))))))), qv [0, 1, 2, 3, 4, 5, 6, 7, 8, 9, 10, 11, 12, 13, 14, 15, 16, 17, 18, 19, 20, 21, 22, 23] (.bool (decide (r516 = (w64 ((((o397.2.2.1).length : Int)) - (((o397.2.2.2).length : Int))))))), qv [0, 1, 2, 3, 4, 5, 6, 7, 8, 9, 10, 11, 12, 13, 14, 15, 16, 17, 18, 19, 20, 21, 22, 23, 24] (.bool (decide (r516 = (w64 ((((o397.2.2.1).length : Int)) - (((o397.2.2.2).length : Int))))))), qv [0, 1, 2, 3, 4, 5, 6, 7, 8, 9, 10, 11, 12, 13, 14, 15, 16, 17, 18, 19, 20, 21, 22, 23, 24, 25] (.pointer (some ⟨z129, 0, none⟩)), ⟨[0, 1, 2, 3, 4, 5, 6, 7, 8, 9, 10, 11, 12, 13, 14, 15, 16, 17, 18, 19, 20, 21, 22, 23, 24, 25, 26], [], fun vs v => v = i64 r519, fun vs v => [], []⟩, qv [0, 1, 2, 3, 4, 5, 6, 7, 8, 9, 10, 11, 12, 13, 14, 15, 16, 17, 18, 19, 20, 21, 22, 23, 24, 25] (v391), qv [0, 1, 2, 3, 4, 5, 6, 7, 8, 9, 10, 11, 12, 13, 14, 15, 16, 17, 18, 19, 20, 21, 22, 23, 24, 25, 28] (i64 (((o397.2.2.2).length : Int))), qv [0, 1, 2, 3, 4, 5, 6, 7, 8, 9, 10, 11, 12, 13, 14, 15, 16, 17, 18, 19, 20, 21, 22, 23, 24, 25, 26, 27, 28, 29] (.bool (decide (r519 = (((o397.2.2.2).length : Int))))), qv [0, 1, 2, 3, 4, 5, 6, 7, 8, 9, 10, 11, 12, 13, 14, 15, 16, 17, 18, 19, 20, 21, 22, 23, 24, 25, 26, 27, 28, 29, 30] (.bool (decide (r519 = (((o397.2.2.2).length : Int))))), qv [0, 1, 2, 3, 4, 5, 6, 7, 8, 9, 10, 11, 12, 13, 14, 15, 16, 17, 18, 19, 20, 21, 22, 23, 24, 25, 26, 27, 28, 29, 30, 31] (.bool (decide (r519 = (((o397.2.2.2).length : Int))))), ⟨[0, 1, 2, 3, 4, 5, 6, 7, 8, 9, 10, 11, 12, 13, 14, 15, 16, 17, 18, 19, 20, 21, 22, 23, 24, 25, 26, 27, 28, 29, 30, 31, 32], [], fun vs v => v = .bool r522, fun vs v => [], []⟩, qv [0, 1, 2, 3, 4, 5, 6, 7, 8, 9, 10, 11, 12, 13, 14, 15, 16, 17, 18, 19, 20, 21, 22, 23, 24, 25, 26, 27, 28, 29, 30, 31, 32, 33] (.bool r522), qv [0, 1, 2, 3, 4, 5, 6, 7, 8, 9, 10, 11, 12, 13, 14, 15, 16, 17, 18, 19, 20, 21, 22, 23, 24, 25, 26, 27, 28, 29, 30, 31, 32, 33, 34] (.bool r522)] mixed (by kernel_rfl) HB501.fresh ⟨?_, ?_, ?_, ?_, ?_, ?_, ?_, ?_, ?_, ?_, ?_, ?_, ?_, ?_, ?_, ?_, ?_, ?_, ?_, ?_, ?_, ?_, ?_, ?_, ?_, ?_, ?_, ?_, ?_, ?_, ?_, ?_, ?_, ?_, ?_, ?_, trivial⟩ ?_
              · intro fA wA lA val (HA : Own _ _ wA lA) hl hb hd
                exact o_moveE (v := v391) ((hb 7 rfl).trans s504) ⟨rfl, HA⟩
              · intro fA wA lA val (HA : Own _ _ wA lA) hl hb hd
                exact o_lenSl Try.underlying22 ((hd 0 rfl).v rfl rfl) (HA.rowIsM (hl 3 _ rfl rfl)) ⟨rfl, HA⟩
              · intro fA wA lA val (HA : Own _ _ wA lA) hl hb hd
                exact o_moveE (v := v388) ((hb 6 rfl).trans s503) ⟨rfl, HA⟩
              · intro fA wA lA val (HA : Own _ _ wA lA) hl hb hd
                exact o_lenSl Try.underlying22 ((hd 2 rfl).v rfl rfl) (HA.rowIsM (hl 2 _ rfl rfl)) ⟨rfl, HA⟩
              · intro fA wA lA val (HA : Own _ _ wA lA) hl hb hd
                exact o_leq ((hd 1 rfl).v rfl rfl) ((hd 3 rfl).v rfl rfl) ⟨rfl, HA⟩
              · intro fA wA lA val (HA : Own _ _ wA lA) hl hb hd
                exact o_moveE (v := .bool (decide ((((o397.2.2.2).length : Int)) ≤ (((o397.2.2.1).length : Int))))) ((hd 4 rfl).v rfl rfl) ⟨rfl, HA⟩
              · intro fA wA lA val (HA : Own _ _ wA lA) hl hb hd
                refine ⟨rfl, some true, (((hd 5 rfl).v rfl rfl).trans (congrArg Value.bool hc505)), fun _ => ?_, fun he => absurd rfl he⟩
                exact o_moveE (v := v391) ((hb 7 rfl).trans s504) ⟨rfl, HA⟩
              · intro fA wA lA val (HA : Own _ _ wA lA) hl hb hd
                refine ⟨rfl, some true, (((hd 5 rfl).v rfl rfl).trans (congrArg Value.bool hc505)), fun _ => ?_, fun he => absurd rfl he⟩
                exact o_bytesStr Try.underlying22 Try.underlying9 Try.underlying5 ((hd 6 rfl).v rfl rfl) (HA.rowM (hl 3 _ rfl rfl)) ⟨rfl, HA⟩
              · intro fA wA lA val (HA : Own _ _ wA lA) hl hb hd
                refine ⟨rfl, some true, (((hd 5 rfl).v rfl rfl).trans (congrArg Value.bool hc505)), fun _ => ?_, fun he => absurd rfl he⟩
                exact o_moveE (v := v388) ((hb 6 rfl).trans s503) ⟨rfl, HA⟩
              · intro fA wA lA val (HA : Own _ _ wA lA) hl hb hd
                refine ⟨rfl, some true, (((hd 5 rfl).v rfl rfl).trans (congrArg Value.bool hc505)), fun _ => ?_, fun he => absurd rfl he⟩
                exact o_moveE (v := v391) ((hb 7 rfl).trans s504) ⟨rfl, HA⟩
              · intro fA wA lA val (HA : Own _ _ wA lA) hl hb hd
                refine ⟨rfl, some true, (((hd 5 rfl).v rfl rfl).trans (congrArg Value.bool hc505)), fun _ => ?_, fun he => absurd rfl he⟩
                exact o_lenSl Try.underlying22 ((hd 9 rfl).v rfl rfl) (HA.rowIsM (hl 3 _ rfl rfl)) ⟨rfl, HA⟩
              · intro fA wA lA val (HA : Own _ _ wA lA) hl hb hd
                refine ⟨rfl, some true, (((hd 5 rfl).v rfl rfl).trans (congrArg Value.bool hc505)), fun _ => ?_, fun he => absurd rfl he⟩
                exact o_slice (v := v388) Try.underlying22 sz5 ((hd 8 rfl).v rfl rfl) (HA.rowIsM (hl 2 _ rfl rfl)) (.inl ⟨rfl, by omega⟩) (.inr ⟨_, rfl, _, ((hd 10 rfl).v rfl rfl).trans (congrArg (Value.int .i64) h511)⟩) h512 h513 ⟨rfl, HA⟩
              · intro fA wA lA val (HA : Own _ _ wA lA) hl hb hd
                refine ⟨rfl, some true, (((hd 5 rfl).v rfl rfl).trans (congrArg Value.bool hc505)), fun _ => ?_, fun he => absurd rfl he⟩
                exact o_bytesStr Try.underlying22 Try.underlying9 Try.underlying5 ((hd 11 rfl).v rfl rfl) ((HA.rowM (hl 2 _ rfl rfl)).subE (h512) (h513) (h514)) ⟨rfl, HA⟩
              · intro fA wA lA val (HA : Own _ _ wA lA) hl hb hd
                refine ⟨rfl, some true, (((hd 5 rfl).v rfl rfl).trans (congrArg Value.bool hc505)), fun _ => ?_, fun he => absurd rfl he⟩
                exact o_eqlStr ((hd 7 rfl).v rfl rfl) ((hd 12 rfl).v rfl rfl) ⟨rfl, HA⟩
              · intro fA wA lA val (HA : Own _ _ wA lA) hl hb hd
                exact o_pickE (v := .bool (decide (o397.2.2.2 = y506))) (((hd 5 rfl).v rfl rfl).trans (congrArg Value.bool hc505)) ((hd 13 rfl).v rfl rfl) ⟨rfl, HA⟩
              · intro fA wA lA val (HA : Own _ _ wA lA) hl hb hd
                exact o_moveE (v := .bool (decide (o397.2.2.2 = y506))) ((hd 14 rfl).v rfl rfl) ⟨rfl, HA⟩
              · intro fA wA lA val (HA : Own _ _ wA lA) hl hb hd
                refine ⟨rfl, some true, (((hd 15 rfl).v rfl rfl).trans (congrArg Value.bool hc515)), fun _ => ?_, fun he => absurd rfl he⟩
                exact o_moveE (v := .pointer (some ⟨z129, 0, none⟩)) ((hb 5 rfl).trans s502) ⟨rfl, HA⟩
              · intro fA wA lA val (HA : Own _ _ wA lA) hl hb hd
                refine ⟨rfl, some true, (((hd 15 rfl).v rfl rfl).trans (congrArg Value.bool hc515)), fun _ => ?_, fun he => absurd rfl he⟩
                refine o_call (args := #[.pointer (some ⟨z129, 0, none⟩)]) rfl Try.func13 rfl (args1 ((hd 16 rfl).v rfl rfl)) (entropy_Source_Left_ok (S := SC lA []) z129 v384 o397.1 o397.2.1 wA (HA.take [] (by decide)) (SC.ok lA []) (AtS.sc0 (HA.bxM (hl 0 _ rfl rfl))) (HA.rowM (hl 1 _ rfl rfl)).sc0 _ h517) ?_
                rintro _ w ⟨rfl, H⟩
                exact ⟨rfl, HA.back0 H⟩
              · intro fA wA lA val (HA : Own _ _ wA lA) hl hb hd
                refine ⟨rfl, some true, (((hd 15 rfl).v rfl rfl).trans (congrArg Value.bool hc515)), fun _ => ?_, fun he => absurd rfl he⟩
                exact o_moveE (v := v388) ((hb 6 rfl).trans s503) ⟨rfl, HA⟩
              · intro fA wA lA val (HA : Own _ _ wA lA) hl hb hd
                refine ⟨rfl, some true, (((hd 15 rfl).v rfl rfl).trans (congrArg Value.bool hc515)), fun _ => ?_, fun he => absurd rfl he⟩
                exact o_lenSl Try.underlying22 ((hd 18 rfl).v rfl rfl) (HA.rowIsM (hl 2 _ rfl rfl)) ⟨rfl, HA⟩
              · intro fA wA lA val (HA : Own _ _ wA lA) hl hb hd
                refine ⟨rfl, some true, (((hd 15 rfl).v rfl rfl).trans (congrArg Value.bool hc515)), fun _ => ?_, fun he => absurd rfl he⟩
                exact o_moveE (v := v391) ((hb 7 rfl).trans s504) ⟨rfl, HA⟩
              · intro fA wA lA val (HA : Own _ _ wA lA) hl hb hd
                refine ⟨rfl, some true, (((hd 15 rfl).v rfl rfl).trans (congrArg Value.bool hc515)), fun _ => ?_, fun he => absurd rfl he⟩
                exact o_lenSl Try.underlying22 ((hd 20 rfl).v rfl rfl) (HA.rowIsM (hl 3 _ rfl rfl)) ⟨rfl, HA⟩
              · intro fA wA lA val (HA : Own _ _ wA lA) hl hb hd
                refine ⟨rfl, some true, (((hd 15 rfl).v rfl rfl).trans (congrArg Value.bool hc515)), fun _ => ?_, fun he => absurd rfl he⟩
                exact o_sub ((hd 19 rfl).v rfl rfl) ((hd 21 rfl).v rfl rfl) ⟨rfl, HA⟩
              · intro fA wA lA val (HA : Own _ _ wA lA) hl hb hd
                refine ⟨rfl, some true, (((hd 15 rfl).v rfl rfl).trans (congrArg Value.bool hc515)), fun _ => ?_, fun he => absurd rfl he⟩
                exact o_eql ((hd 17 rfl).1.trans (hd 17 rfl).2.1) ((hd 22 rfl).v rfl rfl) ⟨rfl, HA⟩
              · intro fA wA lA val (HA : Own _ _ wA lA) hl hb hd
                exact o_pickE (v := .bool (decide (r516 = (w64 ((((o397.2.2.1).length : Int)) - (((o397.2.2.2).length : Int))))))) (((hd 15 rfl).v rfl rfl).trans (congrArg Value.bool hc515)) ((hd 23 rfl).v rfl rfl) ⟨rfl, HA⟩
              · intro fA wA lA val (HA : Own _ _ wA lA) hl hb hd
                exact o_moveE (v := .bool (decide (r516 = (w64 ((((o397.2.2.1).length : Int)) - (((o397.2.2.2).length : Int))))))) ((hd 24 rfl).v rfl rfl) ⟨rfl, HA⟩
              · intro fA wA lA val (HA : Own _ _ wA lA) hl hb hd
                refine ⟨rfl, some true, (((hd 25 rfl).v rfl rfl).trans (congrArg Value.bool hc518)), fun _ => ?_, fun he => absurd rfl he⟩
                exact o_moveE (v := .pointer (some ⟨z129, 0, none⟩)) ((hb 5 rfl).trans s502) ⟨rfl, HA⟩
              · intro fA wA lA val (HA : Own _ _ wA lA) hl hb hd
                refine ⟨rfl, some true, (((hd 25 rfl).v rfl rfl).trans (congrArg Value.bool hc518)), fun _ => ?_, fun he => absurd rfl he⟩
                refine o_call (args := #[.pointer (some ⟨z129, 0, none⟩)]) rfl Try.func14 rfl (args1 ((hd 26 rfl).v rfl rfl)) (entropy_Source_Drawn_ok (S := SC lA []) z129 v384 o397.1 o397.2.1 wA (HA.take [] (by decide)) (SC.ok lA []) (AtS.sc0 (HA.bxM (hl 0 _ rfl rfl))) (HA.rowM (hl 1 _ rfl rfl)).sc0 _ h520) ?_
                rintro _ w ⟨rfl, H⟩
                exact ⟨rfl, HA.back0 H⟩
              · intro fA wA lA val (HA : Own _ _ wA lA) hl hb hd
                refine ⟨rfl, some true, (((hd 25 rfl).v rfl rfl).trans (congrArg Value.bool hc518)), fun _ => ?_, fun he => absurd rfl he⟩
                exact o_moveE (v := v391) ((hb 7 rfl).trans s504) ⟨rfl, HA⟩
              · intro fA wA lA val (HA : Own _ _ wA lA) hl hb hd
                refine ⟨rfl, some true, (((hd 25 rfl).v rfl rfl).trans (congrArg Value.bool hc518)), fun _ => ?_, fun he => absurd rfl he⟩
                exact o_lenSl Try.underlying22 ((hd 28 rfl).v rfl rfl) (HA.rowIsM (hl 3 _ rfl rfl)) ⟨rfl, HA⟩
              · intro fA wA lA val (HA : Own _ _ wA lA) hl hb hd
                refine ⟨rfl, some true, (((hd 25 rfl).v rfl rfl).trans (congrArg Value.bool hc518)), fun _ => ?_, fun he => absurd rfl he⟩
                exact o_eql ((hd 27 rfl).1.trans (hd 27 rfl).2.1) ((hd 29 rfl).v rfl rfl) ⟨rfl, HA⟩
              · intro fA wA lA val (HA : Own _ _ wA lA) hl hb hd
                exact o_pickE (v := .bool (decide (r519 = (((o397.2.2.2).length : Int))))) (((hd 25 rfl).v rfl rfl).trans (congrArg Value.bool hc518)) ((hd 30 rfl).v rfl rfl) ⟨rfl, HA⟩
              · intro fA wA lA val (HA : Own _ _ wA lA) hl hb hd
                exact o_moveE (v := .bool (decide (r519 = (((o397.2.2.2).length : Int))))) ((hd 31 rfl).v rfl rfl) ⟨rfl, HA⟩
              · intro fA wA lA val (HA : Own _ _ wA lA) hl hb hd
                refine ⟨rfl, some true, (((hd 32 rfl).v rfl rfl).trans (congrArg Value.bool hc521)), fun _ => ?_, fun he => absurd rfl he⟩
                refine o_call (args := #[]) rfl Try.func10 rfl (args0 ) (hypogeumlaw08_awake_ok (S := SC lA [])  wA (HA.take [] (by decide)) (SC.ok lA [])  _ h523) ?_
                rintro _ w ⟨rfl, H⟩
                exact ⟨rfl, HA.back0 H⟩
              · intro fA wA lA val (HA : Own _ _ wA lA) hl hb hd
                exact o_pickE (v := .bool r522) (((hd 32 rfl).v rfl rfl).trans (congrArg Value.bool hc521)) ((hd 33 rfl).1.trans (hd 33 rfl).2.1) ⟨rfl, HA⟩
              · intro fA wA lA val (HA : Own _ _ wA lA) hl hb hd
                exact o_assignE (v := .bool r522) ((hd 34 rfl).v rfl rfl) ⟨rfl, HA⟩
              · intro f525 w526 val524 H527 hd528 hb529
                have H530 : Own w500 (footU [bx z129 [v384, i64 o397.2.1], row 1 v384 (o397.1).length (cel E8 o397.1), row 1 v388 (o397.2.2.1).length (cel E8 o397.2.2.1), row 1 v391 (o397.2.2.2).length (cel E8 o397.2.2.2)]) w526 [bx z129 [v384, i64 o397.2.1], row 1 v384 (o397.1).length (cel E8 o397.1), row 1 v388 (o397.2.2.1).length (cel E8 o397.2.2.1), row 1 v391 (o397.2.2.2).length (cel E8 o397.2.2.2)] := H527
                refine L_nil ?_
                refine C_ret ?_
                have hr := Option.some.inj hF
                subst hr
                exact ⟨_, resR1 rfl ((fin_v (hd528 35 (by decide)) rfl)), rfl, (HB501.trans H530).pick [] (by decide)⟩
            · replace hF := (ifF hc521).symm.trans hF
              refine C_any (nb := 4) 36 [qv [] (v391), qv [0] (i64 (((o397.2.2.2).length : Int))), qv [] (v388), qv [2] (i64 (((o397.2.2.1).length : Int))), qv [0, 1, 2, 3] (.bool (decide ((((o397.2.2.2).length : Int)) ≤ (((o397.2.2.1).length : Int))))), qv [0, 1, 2, 3, 4] (.bool (decide ((((o397.2.2.2).length : Int)) ≤ (((o397.2.2.1).length : Int))))), qv [0, 1, 2, 3, 4, 5] (v391), qv [0, 1, 2, 3, 4, 5, 6] (str o397.2.2.2), qv [0, 1, 2, 3, 4, 5] (v388), qv [0, 1, 2, 3, 4, 5] (v391), qv [0, 1, 2, 3, 4, 5, 9] (i64 (((o397.2.2.2).length : Int))), qv [0, 1, 2, 3, 4, 5, 8, 9, 10] ((subv 1 v388 a508 b509)), qv [0, 1, 2, 3, 4, 5, 8, 9, 10, 11] (str y506), qv [0, 1, 2, 3, 4, 5, 6, 7, 8, 9, 10, 11, 12] (.bool (decide (o397.2.2.2 = y506))), qv [0, 1, 2, 3, 4, 5, 6, 7, 8, 9, 10, 11, 12, 13] (.bool (decide (o397.2.2.2 = y506))), qv [0, 1, 2, 3, 4, 5, 6, 7, 8, 9, 10, 11, 12, 13, 14] (.bool (decide (o397.2.2.2 = y506))), qv [0, 1, 2, 3, 4, 5, 6, 7, 8, 9, 10, 11, 12, 13, 14, 15] (.pointer (some ⟨z129, 0, none⟩)), ⟨[0, 1, 2, 3, 4, 5, 6, 7, 8, 9, 10, 11, 12, 13, 14, 15, 16], [], fun vs v => v = i64 r516, fun vs v => [], []⟩, qv [0, 1, 2, 3, 4, 5, 6, 7, 8, 9, 10, 11, 12, 13, 14, 15] (v388), qv [0, 1, 2, 3, 4, 5, 6, 7, 8, 9, 10, 11, 12, 13, 14, 15, 18] (i64 (((o397.2.2.1).length : Int))), qv [0, 1, 2, 3, 4, 5, 6, 7, 8, 9, 10, 11, 12, 13, 14, 15] (v391), qv [0, 1, 2, 3, 4, 5, 6, 7, 8, 9, 10, 11, 12, 13, 14, 15, 20] (i64 (((o397.2.2.2).length : Int))), qv [0, 1, 2, 3, 4, 5, 6, 7, 8, 9, 10, 11, 12, 13, 14, 15, 18, 19, 20, 21] (i64 (w64 ((((o397.2.2.1).length : Int)) - (((o397.2.2.2).length : Int))))), qv [0, 1, 2, 3, 4, 5, 6, 7, 8, 9, 10, 11, 12, 13, 14, 15, 16, 17, 18, 19, 20, 21, 22] (.bool (decide (r516 = (w64 ((((o397.2.2.1).length : Int)) - (((o397.2.2.2).length : Int))))))), qv [0, 1, 2, 3, 4, 5, 6, 7, 8, 9, 10, 11, 12, 13, 14, 15, 16, 17, 18, 19, 20, 21, 22, 23] (.bool (decide (r516 = (w64 ((((o397.2.2.1).length : Int)) - (((o397.2.2.2).length : Int))))))), qv [0, 1, 2, 3, 4, 5, 6, 7, 8, 9, 10, 11, 12, 13, 14, 15, 16, 17, 18, 19, 20, 21, 22, 23, 24] (.bool (decide (r516 = (w64 ((((o397.2.2.1).length : Int)) - (((o397.2.2.2).length : Int))))))), qv [0, 1, 2, 3, 4, 5, 6, 7, 8, 9, 10, 11, 12, 13, 14, 15, 16, 17, 18, 19, 20, 21, 22, 23, 24, 25] (.pointer (some ⟨z129, 0, none⟩)), ⟨[0, 1, 2, 3, 4, 5, 6, 7, 8, 9, 10, 11, 12, 13, 14, 15, 16, 17, 18, 19, 20, 21, 22, 23, 24, 25, 26], [], fun vs v => v = i64 r519, fun vs v => [], []⟩, qv [0, 1, 2, 3, 4, 5, 6, 7, 8, 9, 10, 11, 12, 13, 14, 15, 16, 17, 18, 19, 20, 21, 22, 23, 24, 25] (v391), qv [0, 1, 2, 3, 4, 5, 6, 7, 8, 9, 10, 11, 12, 13, 14, 15, 16, 17, 18, 19, 20, 21, 22, 23, 24, 25, 28] (i64 (((o397.2.2.2).length : Int))), qv [0, 1, 2, 3, 4, 5, 6, 7, 8, 9, 10, 11, 12, 13, 14, 15, 16, 17, 18, 19, 20, 21, 22, 23, 24, 25, 26, 27, 28, 29] (.bool (decide (r519 = (((o397.2.2.2).length : Int))))), qv [0, 1, 2, 3, 4, 5, 6, 7, 8, 9, 10, 11, 12, 13, 14, 15, 16, 17, 18, 19, 20, 21, 22, 23, 24, 25, 26, 27, 28, 29, 30] (.bool (decide (r519 = (((o397.2.2.2).length : Int))))), qv [0, 1, 2, 3, 4, 5, 6, 7, 8, 9, 10, 11, 12, 13, 14, 15, 16, 17, 18, 19, 20, 21, 22, 23, 24, 25, 26, 27, 28, 29, 30, 31] (.bool (decide (r519 = (((o397.2.2.2).length : Int))))), qv [0, 1, 2, 3, 4, 5, 6, 7, 8, 9, 10, 11, 12, 13, 14, 15, 16, 17, 18, 19, 20, 21, 22, 23, 24, 25, 26, 27, 28, 29, 30, 31, 32] undef, qv [0, 1, 2, 3, 4, 5, 6, 7, 8, 9, 10, 11, 12, 13, 14, 15, 16, 17, 18, 19, 20, 21, 22, 23, 24, 25, 26, 27, 28, 29, 30, 31, 32, 33] (.bool false), qv [0, 1, 2, 3, 4, 5, 6, 7, 8, 9, 10, 11, 12, 13, 14, 15, 16, 17, 18, 19, 20, 21, 22, 23, 24, 25, 26, 27, 28, 29, 30, 31, 32, 33, 34] (.bool false)] mixed (by kernel_rfl) HB501.fresh ⟨?_, ?_, ?_, ?_, ?_, ?_, ?_, ?_, ?_, ?_, ?_, ?_, ?_, ?_, ?_, ?_, ?_, ?_, ?_, ?_, ?_, ?_, ?_, ?_, ?_, ?_, ?_, ?_, ?_, ?_, ?_, ?_, ?_, ?_, ?_, ?_, trivial⟩ ?_
              · intro fA wA lA val (HA : Own _ _ wA lA) hl hb hd
                exact o_moveE (v := v391) ((hb 7 rfl).trans s504) ⟨rfl, HA⟩
              · intro fA wA lA val (HA : Own _ _ wA lA) hl hb hd
                exact o_lenSl Try.underlying22 ((hd 0 rfl).v rfl rfl) (HA.rowIsM (hl 3 _ rfl rfl)) ⟨rfl, HA⟩
              · intro fA wA lA val (HA : Own _ _ wA lA) hl hb hd
                exact o_moveE (v := v388) ((hb 6 rfl).trans s503) ⟨rfl, HA⟩
              · intro fA wA lA val (HA : Own _ _ wA lA) hl hb hd
                exact o_lenSl Try.underlying22 ((hd 2 rfl).v rfl rfl) (HA.rowIsM (hl 2 _ rfl rfl)) ⟨rfl, HA⟩
              · intro fA wA lA val (HA : Own _ _ wA lA) hl hb hd
                exact o_leq ((hd 1 rfl).v rfl rfl) ((hd 3 rfl).v rfl rfl) ⟨rfl, HA⟩
              · intro fA wA lA val (HA : Own _ _ wA lA) hl hb hd
                exact o_moveE (v := .bool (decide ((((o397.2.2.2).length : Int)) ≤ (((o397.2.2.1).length : Int))))) ((hd 4 rfl).v rfl rfl) ⟨rfl, HA⟩
              · intro fA wA lA val (HA : Own _ _ wA lA) hl hb hd
                refine ⟨rfl, some true, (((hd 5 rfl).v rfl rfl).trans (congrArg Value.bool hc505)), fun _ => ?_, fun he => absurd rfl he⟩
                exact o_moveE (v := v391) ((hb 7 rfl).trans s504) ⟨rfl, HA⟩
              · intro fA wA lA val (HA : Own _ _ wA lA) hl hb hd
                refine ⟨rfl, some true, (((hd 5 rfl).v rfl rfl).trans (congrArg Value.bool hc505)), fun _ => ?_, fun he => absurd rfl he⟩
                exact o_bytesStr Try.underlying22 Try.underlying9 Try.underlying5 ((hd 6 rfl).v rfl rfl) (HA.rowM (hl 3 _ rfl rfl)) ⟨rfl, HA⟩
              · intro fA wA lA val (HA : Own _ _ wA lA) hl hb hd
                refine ⟨rfl, some true, (((hd 5 rfl).v rfl rfl).trans (congrArg Value.bool hc505)), fun _ => ?_, fun he => absurd rfl he⟩
                exact o_moveE (v := v388) ((hb 6 rfl).trans s503) ⟨rfl, HA⟩
              · intro fA wA lA val (HA : Own _ _ wA lA) hl hb hd
                refine ⟨rfl, some true, (((hd 5 rfl).v rfl rfl).trans (congrArg Value.bool hc505)), fun _ => ?_, fun he => absurd rfl he⟩
                exact o_moveE (v := v391) ((hb 7 rfl).trans s504) ⟨rfl, HA⟩
              · intro fA wA lA val (HA : Own _ _ wA lA) hl hb hd
                refine ⟨rfl, some true, (((hd 5 rfl).v rfl rfl).trans (congrArg Value.bool hc505)), fun _ => ?_, fun he => absurd rfl he⟩
                exact o_lenSl Try.underlying22 ((hd 9 rfl).v rfl rfl) (HA.rowIsM (hl 3 _ rfl rfl)) ⟨rfl, HA⟩
              · intro fA wA lA val (HA : Own _ _ wA lA) hl hb hd
                refine ⟨rfl, some true, (((hd 5 rfl).v rfl rfl).trans (congrArg Value.bool hc505)), fun _ => ?_, fun he => absurd rfl he⟩
                exact o_slice (v := v388) Try.underlying22 sz5 ((hd 8 rfl).v rfl rfl) (HA.rowIsM (hl 2 _ rfl rfl)) (.inl ⟨rfl, by omega⟩) (.inr ⟨_, rfl, _, ((hd 10 rfl).v rfl rfl).trans (congrArg (Value.int .i64) h511)⟩) h512 h513 ⟨rfl, HA⟩
              · intro fA wA lA val (HA : Own _ _ wA lA) hl hb hd
                refine ⟨rfl, some true, (((hd 5 rfl).v rfl rfl).trans (congrArg Value.bool hc505)), fun _ => ?_, fun he => absurd rfl he⟩
                exact o_bytesStr Try.underlying22 Try.underlying9 Try.underlying5 ((hd 11 rfl).v rfl rfl) ((HA.rowM (hl 2 _ rfl rfl)).subE (h512) (h513) (h514)) ⟨rfl, HA⟩
              · intro fA wA lA val (HA : Own _ _ wA lA) hl hb hd
                refine ⟨rfl, some true, (((hd 5 rfl).v rfl rfl).trans (congrArg Value.bool hc505)), fun _ => ?_, fun he => absurd rfl he⟩
                exact o_eqlStr ((hd 7 rfl).v rfl rfl) ((hd 12 rfl).v rfl rfl) ⟨rfl, HA⟩
              · intro fA wA lA val (HA : Own _ _ wA lA) hl hb hd
                exact o_pickE (v := .bool (decide (o397.2.2.2 = y506))) (((hd 5 rfl).v rfl rfl).trans (congrArg Value.bool hc505)) ((hd 13 rfl).v rfl rfl) ⟨rfl, HA⟩
              · intro fA wA lA val (HA : Own _ _ wA lA) hl hb hd
                exact o_moveE (v := .bool (decide (o397.2.2.2 = y506))) ((hd 14 rfl).v rfl rfl) ⟨rfl, HA⟩
              · intro fA wA lA val (HA : Own _ _ wA lA) hl hb hd
                refine ⟨rfl, some true, (((hd 15 rfl).v rfl rfl).trans (congrArg Value.bool hc515)), fun _ => ?_, fun he => absurd rfl he⟩
                exact o_moveE (v := .pointer (some ⟨z129, 0, none⟩)) ((hb 5 rfl).trans s502) ⟨rfl, HA⟩
              · intro fA wA lA val (HA : Own _ _ wA lA) hl hb hd
                refine ⟨rfl, some true, (((hd 15 rfl).v rfl rfl).trans (congrArg Value.bool hc515)), fun _ => ?_, fun he => absurd rfl he⟩
                refine o_call (args := #[.pointer (some ⟨z129, 0, none⟩)]) rfl Try.func13 rfl (args1 ((hd 16 rfl).v rfl rfl)) (entropy_Source_Left_ok (S := SC lA []) z129 v384 o397.1 o397.2.1 wA (HA.take [] (by decide)) (SC.ok lA []) (AtS.sc0 (HA.bxM (hl 0 _ rfl rfl))) (HA.rowM (hl 1 _ rfl rfl)).sc0 _ h517) ?_
                rintro _ w ⟨rfl, H⟩
                exact ⟨rfl, HA.back0 H⟩
              · intro fA wA lA val (HA : Own _ _ wA lA) hl hb hd
                refine ⟨rfl, some true, (((hd 15 rfl).v rfl rfl).trans (congrArg Value.bool hc515)), fun _ => ?_, fun he => absurd rfl he⟩
                exact o_moveE (v := v388) ((hb 6 rfl).trans s503) ⟨rfl, HA⟩
              · intro fA wA lA val (HA : Own _ _ wA lA) hl hb hd
                refine ⟨rfl, some true, (((hd 15 rfl).v rfl rfl).trans (congrArg Value.bool hc515)), fun _ => ?_, fun he => absurd rfl he⟩
                exact o_lenSl Try.underlying22 ((hd 18 rfl).v rfl rfl) (HA.rowIsM (hl 2 _ rfl rfl)) ⟨rfl, HA⟩
              · intro fA wA lA val (HA : Own _ _ wA lA) hl hb hd
                refine ⟨rfl, some true, (((hd 15 rfl).v rfl rfl).trans (congrArg Value.bool hc515)), fun _ => ?_, fun he => absurd rfl he⟩
                exact o_moveE (v := v391) ((hb 7 rfl).trans s504) ⟨rfl, HA⟩
              · intro fA wA lA val (HA : Own _ _ wA lA) hl hb hd
                refine ⟨rfl, some true, (((hd 15 rfl).v rfl rfl).trans (congrArg Value.bool hc515)), fun _ => ?_, fun he => absurd rfl he⟩
                exact o_lenSl Try.underlying22 ((hd 20 rfl).v rfl rfl) (HA.rowIsM (hl 3 _ rfl rfl)) ⟨rfl, HA⟩
              · intro fA wA lA val (HA : Own _ _ wA lA) hl hb hd
                refine ⟨rfl, some true, (((hd 15 rfl).v rfl rfl).trans (congrArg Value.bool hc515)), fun _ => ?_, fun he => absurd rfl he⟩
                exact o_sub ((hd 19 rfl).v rfl rfl) ((hd 21 rfl).v rfl rfl) ⟨rfl, HA⟩
              · intro fA wA lA val (HA : Own _ _ wA lA) hl hb hd
                refine ⟨rfl, some true, (((hd 15 rfl).v rfl rfl).trans (congrArg Value.bool hc515)), fun _ => ?_, fun he => absurd rfl he⟩
                exact o_eql ((hd 17 rfl).1.trans (hd 17 rfl).2.1) ((hd 22 rfl).v rfl rfl) ⟨rfl, HA⟩
              · intro fA wA lA val (HA : Own _ _ wA lA) hl hb hd
                exact o_pickE (v := .bool (decide (r516 = (w64 ((((o397.2.2.1).length : Int)) - (((o397.2.2.2).length : Int))))))) (((hd 15 rfl).v rfl rfl).trans (congrArg Value.bool hc515)) ((hd 23 rfl).v rfl rfl) ⟨rfl, HA⟩
              · intro fA wA lA val (HA : Own _ _ wA lA) hl hb hd
                exact o_moveE (v := .bool (decide (r516 = (w64 ((((o397.2.2.1).length : Int)) - (((o397.2.2.2).length : Int))))))) ((hd 24 rfl).v rfl rfl) ⟨rfl, HA⟩
              · intro fA wA lA val (HA : Own _ _ wA lA) hl hb hd
                refine ⟨rfl, some true, (((hd 25 rfl).v rfl rfl).trans (congrArg Value.bool hc518)), fun _ => ?_, fun he => absurd rfl he⟩
                exact o_moveE (v := .pointer (some ⟨z129, 0, none⟩)) ((hb 5 rfl).trans s502) ⟨rfl, HA⟩
              · intro fA wA lA val (HA : Own _ _ wA lA) hl hb hd
                refine ⟨rfl, some true, (((hd 25 rfl).v rfl rfl).trans (congrArg Value.bool hc518)), fun _ => ?_, fun he => absurd rfl he⟩
                refine o_call (args := #[.pointer (some ⟨z129, 0, none⟩)]) rfl Try.func14 rfl (args1 ((hd 26 rfl).v rfl rfl)) (entropy_Source_Drawn_ok (S := SC lA []) z129 v384 o397.1 o397.2.1 wA (HA.take [] (by decide)) (SC.ok lA []) (AtS.sc0 (HA.bxM (hl 0 _ rfl rfl))) (HA.rowM (hl 1 _ rfl rfl)).sc0 _ h520) ?_
                rintro _ w ⟨rfl, H⟩
                exact ⟨rfl, HA.back0 H⟩
              · intro fA wA lA val (HA : Own _ _ wA lA) hl hb hd
                refine ⟨rfl, some true, (((hd 25 rfl).v rfl rfl).trans (congrArg Value.bool hc518)), fun _ => ?_, fun he => absurd rfl he⟩
                exact o_moveE (v := v391) ((hb 7 rfl).trans s504) ⟨rfl, HA⟩
              · intro fA wA lA val (HA : Own _ _ wA lA) hl hb hd
                refine ⟨rfl, some true, (((hd 25 rfl).v rfl rfl).trans (congrArg Value.bool hc518)), fun _ => ?_, fun he => absurd rfl he⟩
                exact o_lenSl Try.underlying22 ((hd 28 rfl).v rfl rfl) (HA.rowIsM (hl 3 _ rfl rfl)) ⟨rfl, HA⟩
              · intro fA wA lA val (HA : Own _ _ wA lA) hl hb hd
                refine ⟨rfl, some true, (((hd 25 rfl).v rfl rfl).trans (congrArg Value.bool hc518)), fun _ => ?_, fun he => absurd rfl he⟩
                exact o_eql ((hd 27 rfl).1.trans (hd 27 rfl).2.1) ((hd 29 rfl).v rfl rfl) ⟨rfl, HA⟩
              · intro fA wA lA val (HA : Own _ _ wA lA) hl hb hd
                exact o_pickE (v := .bool (decide (r519 = (((o397.2.2.2).length : Int))))) (((hd 25 rfl).v rfl rfl).trans (congrArg Value.bool hc518)) ((hd 30 rfl).v rfl rfl) ⟨rfl, HA⟩
              · intro fA wA lA val (HA : Own _ _ wA lA) hl hb hd
                exact o_moveE (v := .bool (decide (r519 = (((o397.2.2.2).length : Int))))) ((hd 31 rfl).v rfl rfl) ⟨rfl, HA⟩
              · intro fA wA lA val (HA : Own _ _ wA lA) hl hb hd
                refine ⟨rfl, some false, (((hd 32 rfl).v rfl rfl).trans (congrArg Value.bool hc521)), fun he => (by cases he), fun _ => ⟨rfl, rfl, rfl⟩⟩
              · intro fA wA lA val (HA : Own _ _ wA lA) hl hb hd
                exact o_pickE (v := .bool false) (((hd 32 rfl).v rfl rfl).trans (congrArg Value.bool hc521)) rfl ⟨rfl, HA⟩
              · intro fA wA lA val (HA : Own _ _ wA lA) hl hb hd
                exact o_assignE (v := .bool false) ((hd 34 rfl).v rfl rfl) ⟨rfl, HA⟩
              · intro f532 w533 val531 H534 hd535 hb536
                have H537 : Own w500 (footU [bx z129 [v384, i64 o397.2.1], row 1 v384 (o397.1).length (cel E8 o397.1), row 1 v388 (o397.2.2.1).length (cel E8 o397.2.2.1), row 1 v391 (o397.2.2.2).length (cel E8 o397.2.2.2)]) w533 [bx z129 [v384, i64 o397.2.1], row 1 v384 (o397.1).length (cel E8 o397.1), row 1 v388 (o397.2.2.1).length (cel E8 o397.2.2.1), row 1 v391 (o397.2.2.2).length (cel E8 o397.2.2.2)] := H534
                refine L_nil ?_
                refine C_ret ?_
                have hr := Option.some.inj hF
                subst hr
                exact ⟨_, resR1 rfl ((fin_v (hd535 35 (by decide)) rfl)), rfl, (HB501.trans H537).pick [] (by decide)⟩
          · replace hF := (ifF hc518).symm.trans hF
            refine C_any (nb := 4) 36 [qv [] (v391), qv [0] (i64 (((o397.2.2.2).length : Int))), qv [] (v388), qv [2] (i64 (((o397.2.2.1).length : Int))), qv [0, 1, 2, 3] (.bool (decide ((((o397.2.2.2).length : Int)) ≤ (((o397.2.2.1).length : Int))))), qv [0, 1, 2, 3, 4] (.bool (decide ((((o397.2.2.2).length : Int)) ≤ (((o397.2.2.1).length : Int))))), qv [0, 1, 2, 3, 4, 5] (v391), qv [0, 1, 2, 3, 4, 5, 6] (str o397.2.2.2), qv [0, 1, 2, 3, 4, 5] (v388), qv [0, 1, 2, 3, 4, 5] (v391), qv [0, 1, 2, 3, 4, 5, 9] (i64 (((o397.2.2.2).length : Int))), qv [0, 1, 2, 3, 4, 5, 8, 9, 10] ((subv 1 v388 a508 b509)), qv [0, 1, 2, 3, 4, 5, 8, 9, 10, 11] (str y506), qv [0, 1, 2, 3, 4, 5, 6, 7, 8, 9, 10, 11, 12] (.bool (decide (o397.2.2.2 = y506))), qv [0, 1, 2, 3, 4, 5, 6, 7, 8, 9, 10, 11, 12, 13] (.bool (decide (o397.2.2.2 = y506))), qv [0, 1, 2, 3, 4, 5, 6, 7, 8, 9, 10, 11, 12, 13, 14] (.bool (decide (o397.2.2.2 = y506))), qv [0, 1, 2, 3, 4, 5, 6, 7, 8, 9, 10, 11, 12, 13, 14, 15] (.pointer (some ⟨z129, 0, none⟩)), ⟨[0, 1, 2, 3, 4, 5, 6, 7, 8, 9, 10, 11, 12, 13, 14, 15, 16], [], fun vs v => v = i64 r516, fun vs v => [], []⟩, qv [0, 1, 2, 3, 4, 5, 6, 7, 8, 9, 10, 11, 12, 13, 14, 15] (v388), qv [0, 1, 2, 3, 4, 5, 6, 7, 8, 9, 10, 11, 12, 13, 14, 15, 18] (i64 (((o397.2.2.1).length : Int))), qv [0, 1, 2, 3, 4, 5, 6, 7, 8, 9, 10, 11, 12, 13, 14, 15] (v391), qv [0, 1, 2, 3, 4, 5, 6, 7, 8, 9, 10, 11, 12, 13, 14, 15, 20] (i64 (((o397.2.2.2).length : Int))), qv [0, 1, 2, 3, 4, 5, 6, 7, 8, 9, 10, 11, 12, 13, 14, 15, 18, 19, 20, 21] (i64 (w64 ((((o397.2.2.1).length : Int)) - (((o397.2.2.2).length : Int))))), qv [0, 1, 2, 3, 4, 5, 6, 7, 8, 9, 10, 11, 12, 13, 14, 15, 16, 17, 18, 19, 20, 21, 22] (.bool (decide (r516 = (w64 ((((o397.2.2.1).length : Int)) - (((o397.2.2.2).length : Int))))))), qv [0, 1, 2, 3, 4, 5, 6, 7, 8, 9, 10, 11, 12, 13, 14, 15, 16, 17, 18, 19, 20, 21, 22, 23] (.bool (decide (r516 = (w64 ((((o397.2.2.1).length : Int)) - (((o397.2.2.2).length : Int))))))), qv [0, 1, 2, 3, 4, 5, 6, 7, 8, 9, 10, 11, 12, 13, 14, 15, 16, 17, 18, 19, 20, 21, 22, 23, 24] (.bool (decide (r516 = (w64 ((((o397.2.2.1).length : Int)) - (((o397.2.2.2).length : Int))))))), qv [0, 1, 2, 3, 4, 5, 6, 7, 8, 9, 10, 11, 12, 13, 14, 15, 16, 17, 18, 19, 20, 21, 22, 23, 24, 25] undef, qv [0, 1, 2, 3, 4, 5, 6, 7, 8, 9, 10, 11, 12, 13, 14, 15, 16, 17, 18, 19, 20, 21, 22, 23, 24, 25, 26] undef, qv [0, 1, 2, 3, 4, 5, 6, 7, 8, 9, 10, 11, 12, 13, 14, 15, 16, 17, 18, 19, 20, 21, 22, 23, 24, 25] undef, qv [0, 1, 2, 3, 4, 5, 6, 7, 8, 9, 10, 11, 12, 13, 14, 15, 16, 17, 18, 19, 20, 21, 22, 23, 24, 25, 28] undef, qv [0, 1, 2, 3, 4, 5, 6, 7, 8, 9, 10, 11, 12, 13, 14, 15, 16, 17, 18, 19, 20, 21, 22, 23, 24, 25, 26, 27, 28, 29] undef, qv [0, 1, 2, 3, 4, 5, 6, 7, 8, 9, 10, 11, 12, 13, 14, 15, 16, 17, 18, 19, 20, 21, 22, 23, 24, 25, 26, 27, 28, 29, 30] (.bool false), qv [0, 1, 2, 3, 4, 5, 6, 7, 8, 9, 10, 11, 12, 13, 14, 15, 16, 17, 18, 19, 20, 21, 22, 23, 24, 25, 26, 27, 28, 29, 30, 31] (.bool false), qv [0, 1, 2, 3, 4, 5, 6, 7, 8, 9, 10, 11, 12, 13, 14, 15, 16, 17, 18, 19, 20, 21, 22, 23, 24, 25, 26, 27, 28, 29, 30, 31, 32] undef, qv [0, 1, 2, 3, 4, 5, 6, 7, 8, 9, 10, 11, 12, 13, 14, 15, 16, 17, 18, 19, 20, 21, 22, 23, 24, 25, 26, 27, 28, 29, 30, 31, 32, 33] (.bool false), qv [0, 1, 2, 3, 4, 5, 6, 7, 8, 9, 10, 11, 12, 13, 14, 15, 16, 17, 18, 19, 20, 21, 22, 23, 24, 25, 26, 27, 28, 29, 30, 31, 32, 33, 34] (.bool false)] mixed (by kernel_rfl) HB501.fresh ⟨?_, ?_, ?_, ?_, ?_, ?_, ?_, ?_, ?_, ?_, ?_, ?_, ?_, ?_, ?_, ?_, ?_, ?_, ?_, ?_, ?_, ?_, ?_, ?_, ?_, ?_, ?_, ?_, ?_, ?_, ?_, ?_, ?_, ?_, ?_, ?_, trivial⟩ ?_
            · intro fA wA lA val (HA : Own _ _ wA lA) hl hb hd
              exact o_moveE (v := v391) ((hb 7 rfl).trans s504) ⟨rfl, HA⟩
            · intro fA wA lA val (HA : Own _ _ wA lA) hl hb hd
              exact o_lenSl Try.underlying22 ((hd 0 rfl).v rfl rfl) (HA.rowIsM (hl 3 _ rfl rfl)) ⟨rfl, HA⟩
            · intro fA wA lA val (HA : Own _ _ wA lA) hl hb hd
              exact o_moveE (v := v388) ((hb 6 rfl).trans s503) ⟨rfl, HA⟩
            · intro fA wA lA val (HA : Own _ _ wA lA) hl hb hd
              exact o_lenSl Try.underlying22 ((hd 2 rfl).v rfl rfl) (HA.rowIsM (hl 2 _ rfl rfl)) ⟨rfl, HA⟩
            · intro fA wA lA val (HA : Own _ _ wA lA) hl hb hd
              exact o_leq ((hd 1 rfl).v rfl rfl) ((hd 3 rfl).v rfl rfl) ⟨rfl, HA⟩
            · intro fA wA lA val (HA : Own _ _ wA lA) hl hb hd
              exact o_moveE (v := .bool (decide ((((o397.2.2.2).length : Int)) ≤ (((o397.2.2.1).length : Int))))) ((hd 4 rfl).v rfl rfl) ⟨rfl, HA⟩
            · intro fA wA lA val (HA : Own _ _ wA lA) hl hb hd
              refine ⟨rfl, some true, (((hd 5 rfl).v rfl rfl).trans (congrArg Value.bool hc505)), fun _ => ?_, fun he => absurd rfl he⟩
              exact o_moveE (v := v391) ((hb 7 rfl).trans s504) ⟨rfl, HA⟩
            · intro fA wA lA val (HA : Own _ _ wA lA) hl hb hd
              refine ⟨rfl, some true, (((hd 5 rfl).v rfl rfl).trans (congrArg Value.bool hc505)), fun _ => ?_, fun he => absurd rfl he⟩
              exact o_bytesStr Try.underlying22 Try.underlying9 Try.underlying5 ((hd 6 rfl).v rfl rfl) (HA.rowM (hl 3 _ rfl rfl)) ⟨rfl, HA⟩
            · intro fA wA lA val (HA : Own _ _ wA lA) hl hb hd
              refine ⟨rfl, some true, (((hd 5 rfl).v rfl rfl).trans (congrArg Value.bool hc505)), fun _ => ?_, fun he => absurd rfl he⟩
              exact o_moveE (v := v388) ((hb 6 rfl).trans s503) ⟨rfl, HA⟩
            · intro fA wA lA val (HA : Own _ _ wA lA) hl hb hd
              refine ⟨rfl, some true, (((hd 5 rfl).v rfl rfl).trans (congrArg Value.bool hc505)), fun _ => ?_, fun he => absurd rfl he⟩
              exact o_moveE (v := v391) ((hb 7 rfl).trans s504) ⟨rfl, HA⟩
            · intro fA wA lA val (HA : Own _ _ wA lA) hl hb hd
              refine ⟨rfl, some true, (((hd 5 rfl).v rfl rfl).trans (congrArg Value.bool hc505)), fun _ => ?_, fun he => absurd rfl he⟩
              exact o_lenSl Try.underlying22 ((hd 9 rfl).v rfl rfl) (HA.rowIsM (hl 3 _ rfl rfl)) ⟨rfl, HA⟩
            · intro fA wA lA val (HA : Own _ _ wA lA) hl hb hd
              refine ⟨rfl, some true, (((hd 5 rfl).v rfl rfl).trans (congrArg Value.bool hc505)), fun _ => ?_, fun he => absurd rfl he⟩
              exact o_slice (v := v388) Try.underlying22 sz5 ((hd 8 rfl).v rfl rfl) (HA.rowIsM (hl 2 _ rfl rfl)) (.inl ⟨rfl, by omega⟩) (.inr ⟨_, rfl, _, ((hd 10 rfl).v rfl rfl).trans (congrArg (Value.int .i64) h511)⟩) h512 h513 ⟨rfl, HA⟩
            · intro fA wA lA val (HA : Own _ _ wA lA) hl hb hd
              refine ⟨rfl, some true, (((hd 5 rfl).v rfl rfl).trans (congrArg Value.bool hc505)), fun _ => ?_, fun he => absurd rfl he⟩
              exact o_bytesStr Try.underlying22 Try.underlying9 Try.underlying5 ((hd 11 rfl).v rfl rfl) ((HA.rowM (hl 2 _ rfl rfl)).subE (h512) (h513) (h514)) ⟨rfl, HA⟩
            · intro fA wA lA val (HA : Own _ _ wA lA) hl hb hd
              refine ⟨rfl, some true, (((hd 5 rfl).v rfl rfl).trans (congrArg Value.bool hc505)), fun _ => ?_, fun he => absurd rfl he⟩
              exact o_eqlStr ((hd 7 rfl).v rfl rfl) ((hd 12 rfl).v rfl rfl) ⟨rfl, HA⟩
            · intro fA wA lA val (HA : Own _ _ wA lA) hl hb hd
              exact o_pickE (v := .bool (decide (o397.2.2.2 = y506))) (((hd 5 rfl).v rfl rfl).trans (congrArg Value.bool hc505)) ((hd 13 rfl).v rfl rfl) ⟨rfl, HA⟩
            · intro fA wA lA val (HA : Own _ _ wA lA) hl hb hd
              exact o_moveE (v := .bool (decide (o397.2.2.2 = y506))) ((hd 14 rfl).v rfl rfl) ⟨rfl, HA⟩
            · intro fA wA lA val (HA : Own _ _ wA lA) hl hb hd
              refine ⟨rfl, some true, (((hd 15 rfl).v rfl rfl).trans (congrArg Value.bool hc515)), fun _ => ?_, fun he => absurd rfl he⟩
              exact o_moveE (v := .pointer (some ⟨z129, 0, none⟩)) ((hb 5 rfl).trans s502) ⟨rfl, HA⟩
            · intro fA wA lA val (HA : Own _ _ wA lA) hl hb hd
              refine ⟨rfl, some true, (((hd 15 rfl).v rfl rfl).trans (congrArg Value.bool hc515)), fun _ => ?_, fun he => absurd rfl he⟩
              refine o_call (args := #[.pointer (some ⟨z129, 0, none⟩)]) rfl Try.func13 rfl (args1 ((hd 16 rfl).v rfl rfl)) (entropy_Source_Left_ok (S := SC lA []) z129 v384 o397.1 o397.2.1 wA (HA.take [] (by decide)) (SC.ok lA []) (AtS.sc0 (HA.bxM (hl 0 _ rfl rfl))) (HA.rowM (hl 1 _ rfl rfl)).sc0 _ h517) ?_
              rintro _ w ⟨rfl, H⟩
              exact ⟨rfl, HA.back0 H⟩
            · intro fA wA lA val (HA : Own _ _ wA lA) hl hb hd
              refine ⟨rfl, some true, (((hd 15 rfl).v rfl rfl).trans (congrArg Value.bool hc515)), fun _ => ?_, fun he => absurd rfl he⟩
              exact o_moveE (v := v388) ((hb 6 rfl).trans s503) ⟨rfl, HA⟩
            · intro fA wA lA val (HA : Own _ _ wA lA) hl hb hd
              refine ⟨rfl, some true, (((hd 15 rfl).v rfl rfl).trans (congrArg Value.bool hc515)), fun _ => ?_, fun he => absurd rfl he⟩
              exact o_lenSl Try.underlying22 ((hd 18 rfl).v rfl rfl) (HA.rowIsM (hl 2 _ rfl rfl)) ⟨rfl, HA⟩
            · intro fA wA lA val (HA : Own _ _ wA lA) hl hb hd
              refine ⟨rfl, some true, (((hd 15 rfl).v rfl rfl).trans (congrArg Value.bool hc515)), fun _ => ?_, fun he => absurd rfl he⟩
              exact o_moveE (v := v391) ((hb 7 rfl).trans s504) ⟨rfl, HA⟩
            · intro fA wA lA val (HA : Own _ _ wA lA) hl hb hd
              refine ⟨rfl, some true, (((hd 15 rfl).v rfl rfl).trans (congrArg Value.bool hc515)), fun _ => ?_, fun he => absurd rfl he⟩
              exact o_lenSl Try.underlying22 ((hd 20 rfl).v rfl rfl) (HA.rowIsM (hl 3 _ rfl rfl)) ⟨rfl, HA⟩
            · intro fA wA lA val (HA : Own _ _ wA lA) hl hb hd
              refine ⟨rfl, some true, (((hd 15 rfl).v rfl rfl).trans (congrArg Value.bool hc515)), fun _ => ?_, fun he => absurd rfl he⟩
              exact o_sub ((hd 19 rfl).v rfl rfl) ((hd 21 rfl).v rfl rfl) ⟨rfl, HA⟩
            · intro fA wA lA val (HA : Own _ _ wA lA) hl hb hd
              refine ⟨rfl, some true, (((hd 15 rfl).v rfl rfl).trans (congrArg Value.bool hc515)), fun _ => ?_, fun he => absurd rfl he⟩
              exact o_eql ((hd 17 rfl).1.trans (hd 17 rfl).2.1) ((hd 22 rfl).v rfl rfl) ⟨rfl, HA⟩
            · intro fA wA lA val (HA : Own _ _ wA lA) hl hb hd
              exact o_pickE (v := .bool (decide (r516 = (w64 ((((o397.2.2.1).length : Int)) - (((o397.2.2.2).length : Int))))))) (((hd 15 rfl).v rfl rfl).trans (congrArg Value.bool hc515)) ((hd 23 rfl).v rfl rfl) ⟨rfl, HA⟩
            · intro fA wA lA val (HA : Own _ _ wA lA) hl hb hd
              exact o_moveE (v := .bool (decide (r516 = (w64 ((((o397.2.2.1).length : Int)) - (((o397.2.2.2).length : Int))))))) ((hd 24 rfl).v rfl rfl) ⟨rfl, HA⟩
            · intro fA wA lA val (HA : Own _ _ wA lA) hl hb hd
              refine ⟨rfl, some false, (((hd 25 rfl).v rfl rfl).trans (congrArg Value.bool hc518)), fun he => (by cases he), fun _ => ⟨rfl, rfl, rfl⟩⟩
            · intro fA wA lA val (HA : Own _ _ wA lA) hl hb hd
              refine ⟨rfl, some false, (((hd 25 rfl).v rfl rfl).trans (congrArg Value.bool hc518)), fun he => (by cases he), fun _ => ⟨rfl, rfl, rfl⟩⟩
            · intro fA wA lA val (HA : Own _ _ wA lA) hl hb hd
              refine ⟨rfl, some false, (((hd 25 rfl).v rfl rfl).trans (congrArg Value.bool hc518)), fun he => (by cases he), fun _ => ⟨rfl, rfl, rfl⟩⟩
            · intro fA wA lA val (HA : Own _ _ wA lA) hl hb hd
              refine ⟨rfl, some false, (((hd 25 rfl).v rfl rfl).trans (congrArg Value.bool hc518)), fun he => (by cases he), fun _ => ⟨rfl, rfl, rfl⟩⟩
            · intro fA wA lA val (HA : Own _ _ wA lA) hl hb hd
              refine ⟨rfl, some false, (((hd 25 rfl).v rfl rfl).trans (congrArg Value.bool hc518)), fun he => (by cases he), fun _ => ⟨rfl, rfl, rfl⟩⟩
            · intro fA wA lA val (HA : Own _ _ wA lA) hl hb hd
              exact o_pickE (v := .bool false) (((hd 25 rfl).v rfl rfl).trans (congrArg Value.bool hc518)) rfl ⟨rfl, HA⟩
            · intro fA wA lA val (HA : Own _ _ wA lA) hl hb hd
              exact o_moveE (v := .bool false) ((hd 31 rfl).v rfl rfl) ⟨rfl, HA⟩
            · intro fA wA lA val (HA : Own _ _ wA lA) hl hb hd
              refine ⟨rfl, some false, ((hd 32 rfl).v rfl rfl), fun he => (by cases he), fun _ => ⟨rfl, rfl, rfl⟩⟩
            · intro fA wA lA val (HA : Own _ _ wA lA) hl hb hd
              exact o_pickE (v := .bool false) ((hd 32 rfl).v rfl rfl) rfl ⟨rfl, HA⟩
            · intro fA wA lA val (HA : Own _ _ wA lA) hl hb hd
              exact o_assignE (v := .bool false) ((hd 34 rfl).v rfl rfl) ⟨rfl, HA⟩
            · intro f539 w540 val538 H541 hd542 hb543
              have H544 : Own w500 (footU [bx z129 [v384, i64 o397.2.1], row 1 v384 (o397.1).length (cel E8 o397.1), row 1 v388 (o397.2.2.1).length (cel E8 o397.2.2.1), row 1 v391 (o397.2.2.2).length (cel E8 o397.2.2.2)]) w540 [bx z129 [v384, i64 o397.2.1], row 1 v384 (o397.1).length (cel E8 o397.1), row 1 v388 (o397.2.2.1).length (cel E8 o397.2.2.1), row 1 v391 (o397.2.2.2).length (cel E8 o397.2.2.2)] := H541
              refine L_nil ?_
              refine C_ret ?_
              have hr := Option.some.inj hF
              subst hr
              exact ⟨_, resR1 rfl ((fin_v (hd542 35 (by decide)) rfl)), rfl, (HB501.trans H544).pick [] (by decide)⟩
        · replace hF := (ifF hc515).symm.trans hF
          refine C_any (nb := 4) 36 [qv [] (v391), qv [0] (i64 (((o397.2.2.2).length : Int))), qv [] (v388), qv [2] (i64 (((o397.2.2.1).length : Int))), qv [0, 1, 2, 3] (.bool (decide ((((o397.2.2.2).length : Int)) ≤ (((o397.2.2.1).length : Int))))), qv [0, 1, 2, 3, 4] (.bool (decide ((((o397.2.2.2).length : Int)) ≤ (((o397.2.2.1).length : Int))))), qv [0, 1, 2, 3, 4, 5] (v391), qv [0, 1, 2, 3, 4, 5, 6] (str o397.2.2.2), qv [0, 1, 2, 3, 4, 5] (v388), qv [0, 1, 2, 3, 4, 5] (v391), qv [0, 1, 2, 3, 4, 5, 9] (i64 (((o397.2.2.2).length : Int))), qv [0, 1, 2, 3, 4, 5, 8, 9, 10] ((subv 1 v388 a508 b509)), qv [0, 1, 2, 3, 4, 5, 8, 9, 10, 11] (str y506), qv [0, 1, 2, 3, 4, 5, 6, 7, 8, 9, 10, 11, 12] (.bool (decide (o397.2.2.2 = y506))), qv [0, 1, 2, 3, 4, 5, 6, 7, 8, 9, 10, 11, 12, 13] (.bool (decide (o397.2.2.2 = y506))), qv [0, 1, 2, 3, 4, 5, 6, 7, 8, 9, 10, 11, 12, 13, 14] (.bool (decide (o397.2.2.2 = y506))), qv [0, 1, 2, 3, 4, 5, 6, 7, 8, 9, 10, 11, 12, 13, 14, 15] undef, qv [0, 1, 2, 3, 4, 5, 6, 7, 8, 9, 10, 11, 12, 13, 14, 15, 16] undef, qv [0, 1, 2, 3, 4, 5, 6, 7, 8, 9, 10, 11, 12, 13, 14, 15] undef, qv [0, 1, 2, 3, 4, 5, 6, 7, 8, 9, 10, 11, 12, 13, 14, 15, 18] undef, qv [0, 1, 2, 3, 4, 5, 6, 7, 8, 9, 10, 11, 12, 13, 14, 15] undef, qv [0, 1, 2, 3, 4, 5, 6, 7, 8, 9, 10, 11, 12, 13, 14, 15, 20] undef, qv [0, 1, 2, 3, 4, 5, 6, 7, 8, 9, 10, 11, 12, 13, 14, 15, 18, 19, 20, 21] undef, qv [0, 1, 2, 3, 4, 5, 6, 7, 8, 9, 10, 11, 12, 13, 14, 15, 16, 17, 18, 19, 20, 21, 22] undef, qv [0, 1, 2, 3, 4, 5, 6, 7, 8, 9, 10, 11, 12, 13, 14, 15, 16, 17, 18, 19, 20, 21, 22, 23] (.bool false), qv [0, 1, 2, 3, 4, 5, 6, 7, 8, 9, 10, 11, 12, 13, 14, 15, 16, 17, 18, 19, 20, 21, 22, 23, 24] (.bool false), qv [0, 1, 2, 3, 4, 5, 6, 7, 8, 9, 10, 11, 12, 13, 14, 15, 16, 17, 18, 19, 20, 21, 22, 23, 24, 25] undef, qv [0, 1, 2, 3, 4, 5, 6, 7, 8, 9, 10, 11, 12, 13, 14, 15, 16, 17, 18, 19, 20, 21, 22, 23, 24, 25, 26] undef, qv [0, 1, 2, 3, 4, 5, 6, 7, 8, 9, 10, 11, 12, 13, 14, 15, 16, 17, 18, 19, 20, 21, 22, 23, 24, 25] undef, qv [0, 1, 2, 3, 4, 5, 6, 7, 8, 9, 10, 11, 12, 13, 14, 15, 16, 17, 18, 19, 20, 21, 22, 23, 24, 25, 28] undef, qv [0, 1, 2, 3, 4, 5, 6, 7, 8, 9, 10, 11, 12, 13, 14, 15, 16, 17, 18, 19, 20, 21, 22, 23, 24, 25, 26, 27, 28, 29] undef, qv [0, 1, 2, 3, 4, 5, 6, 7, 8, 9, 10, 11, 12, 13, 14, 15, 16, 17, 18, 19, 20, 21, 22, 23, 24, 25, 26, 27, 28, 29, 30] (.bool false), qv [0, 1, 2, 3, 4, 5, 6, 7, 8, 9, 10, 11, 12, 13, 14, 15, 16, 17, 18, 19, 20, 21, 22, 23, 24, 25, 26, 27, 28, 29, 30, 31] (.bool false), qv [0, 1, 2, 3, 4, 5, 6, 7, 8, 9, 10, 11, 12, 13, 14, 15, 16, 17, 18, 19, 20, 21, 22, 23, 24, 25, 26, 27, 28, 29, 30, 31, 32] undef, qv [0, 1, 2, 3, 4, 5, 6, 7, 8, 9, 10, 11, 12, 13, 14, 15, 16, 17, 18, 19, 20, 21, 22, 23, 24, 25, 26, 27, 28, 29, 30, 31, 32, 33] (.bool false), qv [0, 1, 2, 3, 4, 5, 6, 7, 8, 9, 10, 11, 12, 13, 14, 15, 16, 17, 18, 19, 20, 21, 22, 23, 24, 25, 26, 27, 28, 29, 30, 31, 32, 33, 34] (.bool false)] mixed (by kernel_rfl) HB501.fresh ⟨?_, ?_, ?_, ?_, ?_, ?_, ?_, ?_, ?_, ?_, ?_, ?_, ?_, ?_, ?_, ?_, ?_, ?_, ?_, ?_, ?_, ?_, ?_, ?_, ?_, ?_, ?_, ?_, ?_, ?_, ?_, ?_, ?_, ?_, ?_, ?_, trivial⟩ ?_
          · intro fA wA lA val (HA : Own _ _ wA lA) hl hb hd
            exact o_moveE (v := v391) ((hb 7 rfl).trans s504) ⟨rfl, HA⟩
          · intro fA wA lA val (HA : Own _ _ wA lA) hl hb hd
            exact o_lenSl Try.underlying22 ((hd 0 rfl).v rfl rfl) (HA.rowIsM (hl 3 _ rfl rfl)) ⟨rfl, HA⟩
          · intro fA wA lA val (HA : Own _ _ wA lA) hl hb hd
            exact o_moveE (v := v388) ((hb 6 rfl).trans s503) ⟨rfl, HA⟩
          · intro fA wA lA val (HA : Own _ _ wA lA) hl hb hd
            exact o_lenSl Try.underlying22 ((hd 2 rfl).v rfl rfl) (HA.rowIsM (hl 2 _ rfl rfl)) ⟨rfl, HA⟩
          · intro fA wA lA val (HA : Own _ _ wA lA) hl hb hd
            exact o_leq ((hd 1 rfl).v rfl rfl) ((hd 3 rfl).v rfl rfl) ⟨rfl, HA⟩
          · intro fA wA lA val (HA : Own _ _ wA lA) hl hb hd
            exact o_moveE (v := .bool (decide ((((o397.2.2.2).length : Int)) ≤ (((o397.2.2.1).length : Int))))) ((hd 4 rfl).v rfl rfl) ⟨rfl, HA⟩
          · intro fA wA lA val (HA : Own _ _ wA lA) hl hb hd
            refine ⟨rfl, some true, (((hd 5 rfl).v rfl rfl).trans (congrArg Value.bool hc505)), fun _ => ?_, fun he => absurd rfl he⟩
            exact o_moveE (v := v391) ((hb 7 rfl).trans s504) ⟨rfl, HA⟩
          · intro fA wA lA val (HA : Own _ _ wA lA) hl hb hd
            refine ⟨rfl, some true, (((hd 5 rfl).v rfl rfl).trans (congrArg Value.bool hc505)), fun _ => ?_, fun he => absurd rfl he⟩
            exact o_bytesStr Try.underlying22 Try.underlying9 Try.underlying5 ((hd 6 rfl).v rfl rfl) (HA.rowM (hl 3 _ rfl rfl)) ⟨rfl, HA⟩
          · intro fA wA lA val (HA : Own _ _ wA lA) hl hb hd
            refine ⟨rfl, some true, (((hd 5 rfl).v rfl rfl).trans (congrArg Value.bool hc505)), fun _ => ?_, fun he => absurd rfl he⟩
            exact o_moveE (v := v388) ((hb 6 rfl).trans s503) ⟨rfl, HA⟩
          · intro fA wA lA val (HA : Own _ _ wA lA) hl hb hd
            refine ⟨rfl, some true, (((hd 5 rfl).v rfl rfl).trans (congrArg Value.bool hc505)), fun _ => ?_, fun he => absurd rfl he⟩
            exact o_moveE (v := v391) ((hb 7 rfl).trans s504) ⟨rfl, HA⟩
          · intro fA wA lA val (HA : Own _ _ wA lA) hl hb hd
            refine ⟨rfl, some true, (((hd 5 rfl).v rfl rfl).trans (congrArg Value.bool hc505)), fun _ => ?_, fun he => absurd rfl he⟩
            exact o_lenSl Try.underlying22 ((hd 9 rfl).v rfl rfl) (HA.rowIsM (hl 3 _ rfl rfl)) ⟨rfl, HA⟩
          · intro fA wA lA val (HA : Own _ _ wA lA) hl hb hd
            refine ⟨rfl, some true, (((hd 5 rfl).v rfl rfl).trans (congrArg Value.bool hc505)), fun _ => ?_, fun he => absurd rfl he⟩
            exact o_slice (v := v388) Try.underlying22 sz5 ((hd 8 rfl).v rfl rfl) (HA.rowIsM (hl 2 _ rfl rfl)) (.inl ⟨rfl, by omega⟩) (.inr ⟨_, rfl, _, ((hd 10 rfl).v rfl rfl).trans (congrArg (Value.int .i64) h511)⟩) h512 h513 ⟨rfl, HA⟩
          · intro fA wA lA val (HA : Own _ _ wA lA) hl hb hd
            refine ⟨rfl, some true, (((hd 5 rfl).v rfl rfl).trans (congrArg Value.bool hc505)), fun _ => ?_, fun he => absurd rfl he⟩
            exact o_bytesStr Try.underlying22 Try.underlying9 Try.underlying5 ((hd 11 rfl).v rfl rfl) ((HA.rowM (hl 2 _ rfl rfl)).subE (h512) (h513) (h514)) ⟨rfl, HA⟩
          · intro fA wA lA val (HA : Own _ _ wA lA) hl hb hd
            refine ⟨rfl, some true, (((hd 5 rfl).v rfl rfl).trans (congrArg Value.bool hc505)), fun _ => ?_, fun he => absurd rfl he⟩
            exact o_eqlStr ((hd 7 rfl).v rfl rfl) ((hd 12 rfl).v rfl rfl) ⟨rfl, HA⟩
          · intro fA wA lA val (HA : Own _ _ wA lA) hl hb hd
            exact o_pickE (v := .bool (decide (o397.2.2.2 = y506))) (((hd 5 rfl).v rfl rfl).trans (congrArg Value.bool hc505)) ((hd 13 rfl).v rfl rfl) ⟨rfl, HA⟩
          · intro fA wA lA val (HA : Own _ _ wA lA) hl hb hd
            exact o_moveE (v := .bool (decide (o397.2.2.2 = y506))) ((hd 14 rfl).v rfl rfl) ⟨rfl, HA⟩
          · intro fA wA lA val (HA : Own _ _ wA lA) hl hb hd
            refine ⟨rfl, some false, (((hd 15 rfl).v rfl rfl).trans (congrArg Value.bool hc515)), fun he => (by cases he), fun _ => ⟨rfl, rfl, rfl⟩⟩
          · intro fA wA lA val (HA : Own _ _ wA lA) hl hb hd
            refine ⟨rfl, some false, (((hd 15 rfl).v rfl rfl).trans (congrArg Value.bool hc515)), fun he => (by cases he), fun _ => ⟨rfl, rfl, rfl⟩⟩
          · intro fA wA lA val (HA : Own _ _ wA lA) hl hb hd
            refine ⟨rfl, some false, (((hd 15 rfl).v rfl rfl).trans (congrArg Value.bool hc515)), fun he => (by cases he), fun _ => ⟨rfl, rfl, rfl⟩⟩
          · intro fA wA lA val (HA : Own _ _ wA lA) hl hb hd
            refine ⟨rfl, some false, (((hd 15 rfl).v rfl rfl).trans (congrArg Value.bool hc515)), fun he => (by cases he), fun _ => ⟨rfl, rfl, rfl⟩⟩
          · intro fA wA lA val (HA : Own _ _ wA lA) hl hb hd
            refine ⟨rfl, some false, (((hd 15 rfl).v rfl rfl).trans (congrArg Value.bool hc515)), fun he => (by cases he), fun _ => ⟨rfl, rfl, rfl⟩⟩
          · intro fA wA lA val (HA : Own _ _ wA lA) hl hb hd
            refine ⟨rfl, some false, (((hd 15 rfl).v rfl rfl).trans (congrArg Value.bool hc515)), fun he => (by cases he), fun _ => ⟨rfl, rfl, rfl⟩⟩
          · intro fA wA lA val (HA : Own _ _ wA lA) hl hb hd
            refine ⟨rfl, some false, (((hd 15 rfl).v rfl rfl).trans (congrArg Value.bool hc515)), fun he => (by cases he), fun _ => ⟨rfl, rfl, rfl⟩⟩
          · intro fA wA lA val (HA : Own _ _ wA lA) hl hb hd
            refine ⟨rfl, some false, (((hd 15 rfl).v rfl rfl).trans (congrArg Value.bool hc515)), fun he => (by cases he), fun _ => ⟨rfl, rfl, rfl⟩⟩
          · intro fA wA lA val (HA : Own _ _ wA lA) hl hb hd
            exact o_pickE (v := .bool false) (((hd 15 rfl).v rfl rfl).trans (congrArg Value.bool hc515)) rfl ⟨rfl, HA⟩
          · intro fA wA lA val (HA : Own _ _ wA lA) hl hb hd
            exact o_moveE (v := .bool false) ((hd 24 rfl).v rfl rfl) ⟨rfl, HA⟩
          · intro fA wA lA val (HA : Own _ _ wA lA) hl hb hd
            refine ⟨rfl, some false, ((hd 25 rfl).v rfl rfl), fun he => (by cases he), fun _ => ⟨rfl, rfl, rfl⟩⟩
          · intro fA wA lA val (HA : Own _ _ wA lA) hl hb hd
            refine ⟨rfl, some false, ((hd 25 rfl).v rfl rfl), fun he => (by cases he), fun _ => ⟨rfl, rfl, rfl⟩⟩
          · intro fA wA lA val (HA : Own _ _ wA lA) hl hb hd
            refine ⟨rfl, some false, ((hd 25 rfl).v rfl rfl), fun he => (by cases he), fun _ => ⟨rfl, rfl, rfl⟩⟩
          · intro fA wA lA val (HA : Own _ _ wA lA) hl hb hd
            refine ⟨rfl, some false, ((hd 25 rfl).v rfl rfl), fun he => (by cases he), fun _ => ⟨rfl, rfl, rfl⟩⟩
          · intro fA wA lA val (HA : Own _ _ wA lA) hl hb hd
            refine ⟨rfl, some false, ((hd 25 rfl).v rfl rfl), fun he => (by cases he), fun _ => ⟨rfl, rfl, rfl⟩⟩
          · intro fA wA lA val (HA : Own _ _ wA lA) hl hb hd
            exact o_pickE (v := .bool false) ((hd 25 rfl).v rfl rfl) rfl ⟨rfl, HA⟩
          · intro fA wA lA val (HA : Own _ _ wA lA) hl hb hd
            exact o_moveE (v := .bool false) ((hd 31 rfl).v rfl rfl) ⟨rfl, HA⟩
          · intro fA wA lA val (HA : Own _ _ wA lA) hl hb hd
            refine ⟨rfl, some false, ((hd 32 rfl).v rfl rfl), fun he => (by cases he), fun _ => ⟨rfl, rfl, rfl⟩⟩
          · intro fA wA lA val (HA : Own _ _ wA lA) hl hb hd
            exact o_pickE (v := .bool false) ((hd 32 rfl).v rfl rfl) rfl ⟨rfl, HA⟩
          · intro fA wA lA val (HA : Own _ _ wA lA) hl hb hd
            exact o_assignE (v := .bool false) ((hd 34 rfl).v rfl rfl) ⟨rfl, HA⟩
          · intro f546 w547 val545 H548 hd549 hb550
            have H551 : Own w500 (footU [bx z129 [v384, i64 o397.2.1], row 1 v384 (o397.1).length (cel E8 o397.1), row 1 v388 (o397.2.2.1).length (cel E8 o397.2.2.1), row 1 v391 (o397.2.2.2).length (cel E8 o397.2.2.2)]) w547 [bx z129 [v384, i64 o397.2.1], row 1 v384 (o397.1).length (cel E8 o397.1), row 1 v388 (o397.2.2.1).length (cel E8 o397.2.2.1), row 1 v391 (o397.2.2.2).length (cel E8 o397.2.2.2)] := H548
            refine L_nil ?_
            refine C_ret ?_
            have hr := Option.some.inj hF
            subst hr
            exact ⟨_, resR1 rfl ((fin_v (hd549 35 (by decide)) rfl)), rfl, (HB501.trans H551).pick [] (by decide)⟩
      · replace hF := (ifF hc505).symm.trans hF
        refine C_any (nb := 4) 36 [qv [] (v391), qv [0] (i64 (((o397.2.2.2).length : Int))), qv [] (v388), qv [2] (i64 (((o397.2.2.1).length : Int))), qv [0, 1, 2, 3] (.bool (decide ((((o397.2.2.2).length : Int)) ≤ (((o397.2.2.1).length : Int))))), qv [0, 1, 2, 3, 4] (.bool (decide ((((o397.2.2.2).length : Int)) ≤ (((o397.2.2.1).length : Int))))), qv [0, 1, 2, 3, 4, 5] undef, qv [0, 1, 2, 3, 4, 5, 6] undef, qv [0, 1, 2, 3, 4, 5] undef, qv [0, 1, 2, 3, 4, 5] undef, qv [0, 1, 2, 3, 4, 5, 9] undef, qv [0, 1, 2, 3, 4, 5, 8, 9, 10] undef, qv [0, 1, 2, 3, 4, 5, 8, 9, 10, 11] undef, qv [0, 1, 2, 3, 4, 5, 6, 7, 8, 9, 10, 11, 12] undef, qv [0, 1, 2, 3, 4, 5, 6, 7, 8, 9, 10, 11, 12, 13] (.bool false), qv [0, 1, 2, 3, 4, 5, 6, 7, 8, 9, 10, 11, 12, 13, 14] (.bool false), qv [0, 1, 2, 3, 4, 5, 6, 7, 8, 9, 10, 11, 12, 13, 14, 15] undef, qv [0, 1, 2, 3, 4, 5, 6, 7, 8, 9, 10, 11, 12, 13, 14, 15, 16] undef, qv [0, 1, 2, 3, 4, 5, 6, 7, 8, 9, 10, 11, 12, 13, 14, 15] undef, qv [0, 1, 2, 3, 4, 5, 6, 7, 8, 9, 10, 11, 12, 13, 14, 15, 18] undef, qv [0, 1, 2, 3, 4, 5, 6, 7, 8, 9, 10, 11, 12, 13, 14, 15] undef, qv [0, 1, 2, 3, 4, 5, 6, 7, 8, 9, 10, 11, 12, 13, 14, 15, 20] undef, qv [0, 1, 2, 3, 4, 5, 6, 7, 8, 9, 10, 11, 12, 13, 14, 15, 18, 19, 20, 21] undef, qv [0, 1, 2, 3, 4, 5, 6, 7, 8, 9, 10, 11, 12, 13, 14, 15, 16, 17, 18, 19, 20, 21, 22] undef, qv [0, 1, 2, 3, 4, 5, 6, 7, 8, 9, 10, 11, 12, 13, 14, 15, 16, 17, 18, 19, 20, 21, 22, 23] (.bool false), qv [0, 1, 2, 3, 4, 5, 6, 7, 8, 9, 10, 11, 12, 13, 14, 15, 16, 17, 18, 19, 20, 21, 22, 23, 24] (.bool false), qv [0, 1, 2, 3, 4, 5, 6, 7, 8, 9, 10, 11, 12, 13, 14, 15, 16, 17, 18, 19, 20, 21, 22, 23, 24, 25] undef, qv [0, 1, 2, 3, 4, 5, 6, 7, 8, 9, 10, 11, 12, 13, 14, 15, 16, 17, 18, 19, 20, 21, 22, 23, 24, 25, 26] undef, qv [0, 1, 2, 3, 4, 5, 6, 7, 8, 9, 10, 11, 12, 13, 14, 15, 16, 17, 18, 19, 20, 21, 22, 23, 24, 25] undef, qv [0, 1, 2, 3, 4, 5, 6, 7, 8, 9, 10, 11, 12, 13, 14, 15, 16, 17, 18, 19, 20, 21, 22, 23, 24, 25, 28] undef, qv [0, 1, 2, 3, 4, 5, 6, 7, 8, 9, 10, 11, 12, 13, 14, 15, 16, 17, 18, 19, 20, 21, 22, 23, 24, 25, 26, 27, 28, 29] undef, qv [0, 1, 2, 3, 4, 5, 6, 7, 8, 9, 10, 11, 12, 13, 14, 15, 16, 17, 18, 19, 20, 21, 22, 23, 24, 25, 26, 27, 28, 29, 30] (.bool false), qv [0, 1, 2, 3, 4, 5, 6, 7, 8, 9, 10, 11, 12, 13, 14, 15, 16, 17, 18, 19, 20, 21, 22, 23, 24, 25, 26, 27, 28, 29, 30, 31] (.bool false), qv [0, 1, 2, 3, 4, 5, 6, 7, 8, 9, 10, 11, 12, 13, 14, 15, 16, 17, 18, 19, 20, 21, 22, 23, 24, 25, 26, 27, 28, 29, 30, 31, 32] undef, qv [0, 1, 2, 3, 4, 5, 6, 7, 8, 9, 10, 11, 12, 13, 14, 15, 16, 17, 18, 19, 20, 21, 22, 23, 24, 25, 26, 27, 28, 29, 30, 31, 32, 33] (.bool false), qv [0, 1, 2, 3, 4, 5, 6, 7, 8, 9, 10, 11, 12, 13, 14, 15, 16, 17, 18, 19, 20, 21, 22, 23, 24, 25, 26, 27, 28, 29, 30, 31, 32, 33, 34] (.bool false)] mixed (by kernel_rfl) HB501.fresh ⟨?_, ?_, ?_, ?_, ?_, ?_, ?_, ?_, ?_, ?_, ?_, ?_, ?_, ?_, ?_, ?_, ?_, ?_, ?_, ?_, ?_, ?_, ?_, ?_, ?_, ?_, ?_, ?_, ?_, ?_, ?_, ?_, ?_, ?_, ?_, ?_, trivial⟩ ?_
        · intro fA wA lA val (HA : Own _ _ wA lA) hl hb hd
          exact o_moveE (v := v391) ((hb 7 rfl).trans s504) ⟨rfl, HA⟩
        · intro fA wA lA val (HA : Own _ _ wA lA) hl hb hd
          exact o_lenSl Try.underlying22 ((hd 0 rfl).v rfl rfl) (HA.rowIsM (hl 3 _ rfl rfl)) ⟨rfl, HA⟩
        · intro fA wA lA val (HA : Own _ _ wA lA) hl hb hd
          exact o_moveE (v := v388) ((hb 6 rfl).trans s503) ⟨rfl, HA⟩
        · intro fA wA lA val (HA : Own _ _ wA lA) hl hb hd
          exact o_lenSl Try.underlying22 ((hd 2 rfl).v rfl rfl) (HA.rowIsM (hl 2 _ rfl rfl)) ⟨rfl, HA⟩
        · intro fA wA lA val (HA : Own _ _ wA lA) hl hb hd
          exact o_leq ((hd 1 rfl).v rfl rfl) ((hd 3 rfl).v rfl rfl) ⟨rfl, HA⟩
        · intro fA wA lA val (HA : Own _ _ wA lA) hl hb hd
          exact o_moveE (v := .bool (decide ((((o397.2.2.2).length : Int)) ≤ (((o397.2.2.1).length : Int))))) ((hd 4 rfl).v rfl rfl) ⟨rfl, HA⟩
        · intro fA wA lA val (HA : Own _ _ wA lA) hl hb hd
          refine ⟨rfl, some false, (((hd 5 rfl).v rfl rfl).trans (congrArg Value.bool hc505)), fun he => (by cases he), fun _ => ⟨rfl, rfl, rfl⟩⟩
        · intro fA wA lA val (HA : Own _ _ wA lA) hl hb hd
          refine ⟨rfl, some false, (((hd 5 rfl).v rfl rfl).trans (congrArg Value.bool hc505)), fun he => (by cases he), fun _ => ⟨rfl, rfl, rfl⟩⟩
        · intro fA wA lA val (HA : Own _ _ wA lA) hl hb hd
          refine ⟨rfl, some false, (((hd 5 rfl).v rfl rfl).trans (congrArg Value.bool hc505)), fun he => (by cases he), fun _ => ⟨rfl, rfl, rfl⟩⟩
        · intro fA wA lA val (HA : Own _ _ wA lA) hl hb hd
          refine ⟨rfl, some false, (((hd 5 rfl).v rfl rfl).trans (congrArg Value.bool hc505)), fun he => (by cases he), fun _ => ⟨rfl, rfl, rfl⟩⟩
        · intro fA wA lA val (HA : Own _ _ wA lA) hl hb hd
          refine ⟨rfl, some false, (((hd 5 rfl).v rfl rfl).trans (congrArg Value.bool hc505)), fun he => (by cases he), fun _ => ⟨rfl, rfl, rfl⟩⟩
        · intro fA wA lA val (HA : Own _ _ wA lA) hl hb hd
          refine ⟨rfl, some false, (((hd 5 rfl).v rfl rfl).trans (congrArg Value.bool hc505)), fun he => (by cases he), fun _ => ⟨rfl, rfl, rfl⟩⟩
        · intro fA wA lA val (HA : Own _ _ wA lA) hl hb hd
          refine ⟨rfl, some false, (((hd 5 rfl).v rfl rfl).trans (congrArg Value.bool hc505)), fun he => (by cases he), fun _ => ⟨rfl, rfl, rfl⟩⟩
        · intro fA wA lA val (HA : Own _ _ wA lA) hl hb hd
          refine ⟨rfl, some false, (((hd 5 rfl).v rfl rfl).trans (congrArg Value.bool hc505)), fun he => (by cases he), fun _ => ⟨rfl, rfl, rfl⟩⟩
        · intro fA wA lA val (HA : Own _ _ wA lA) hl hb hd
          exact o_pickE (v := .bool false) (((hd 5 rfl).v rfl rfl).trans (congrArg Value.bool hc505)) rfl ⟨rfl, HA⟩
        · intro fA wA lA val (HA : Own _ _ wA lA) hl hb hd
          exact o_moveE (v := .bool false) ((hd 14 rfl).v rfl rfl) ⟨rfl, HA⟩
        · intro fA wA lA val (HA : Own _ _ wA lA) hl hb hd
          refine ⟨rfl, some false, ((hd 15 rfl).v rfl rfl), fun he => (by cases he), fun _ => ⟨rfl, rfl, rfl⟩⟩
        · intro fA wA lA val (HA : Own _ _ wA lA) hl hb hd
          refine ⟨rfl, some false, ((hd 15 rfl).v rfl rfl), fun he => (by cases he), fun _ => ⟨rfl, rfl, rfl⟩⟩
        · intro fA wA lA val (HA : Own _ _ wA lA) hl hb hd
          refine ⟨rfl, some false, ((hd 15 rfl).v rfl rfl), fun he => (by cases he), fun _ => ⟨rfl, rfl, rfl⟩⟩
        · intro fA wA lA val (HA : Own _ _ wA lA) hl hb hd
          refine ⟨rfl, some false, ((hd 15 rfl).v rfl rfl), fun he => (by cases he), fun _ => ⟨rfl, rfl, rfl⟩⟩
        · intro fA wA lA val (HA : Own _ _ wA lA) hl hb hd
          refine ⟨rfl, some false, ((hd 15 rfl).v rfl rfl), fun he => (by cases he), fun _ => ⟨rfl, rfl, rfl⟩⟩
        · intro fA wA lA val (HA : Own _ _ wA lA) hl hb hd
          refine ⟨rfl, some false, ((hd 15 rfl).v rfl rfl), fun he => (by cases he), fun _ => ⟨rfl, rfl, rfl⟩⟩
        · intro fA wA lA val (HA : Own _ _ wA lA) hl hb hd
          refine ⟨rfl, some false, ((hd 15 rfl).v rfl rfl), fun he => (by cases he), fun _ => ⟨rfl, rfl, rfl⟩⟩
        · intro fA wA lA val (HA : Own _ _ wA lA) hl hb hd
          refine ⟨rfl, some false, ((hd 15 rfl).v rfl rfl), fun he => (by cases he), fun _ => ⟨rfl, rfl, rfl⟩⟩
        · intro fA wA lA val (HA : Own _ _ wA lA) hl hb hd
          exact o_pickE (v := .bool false) ((hd 15 rfl).v rfl rfl) rfl ⟨rfl, HA⟩
        · intro fA wA lA val (HA : Own _ _ wA lA) hl hb hd
          exact o_moveE (v := .bool false) ((hd 24 rfl).v rfl rfl) ⟨rfl, HA⟩
        · intro fA wA lA val (HA : Own _ _ wA lA) hl hb hd
          refine ⟨rfl, some false, ((hd 25 rfl).v rfl rfl), fun he => (by cases he), fun _ => ⟨rfl, rfl, rfl⟩⟩
        · intro fA wA lA val (HA : Own _ _ wA lA) hl hb hd
          refine ⟨rfl, some false, ((hd 25 rfl).v rfl rfl), fun he => (by cases he), fun _ => ⟨rfl, rfl, rfl⟩⟩
        · intro fA wA lA val (HA : Own _ _ wA lA) hl hb hd
          refine ⟨rfl, some false, ((hd 25 rfl).v rfl rfl), fun he => (by cases he), fun _ => ⟨rfl, rfl, rfl⟩⟩
        · intro fA wA lA val (HA : Own _ _ wA lA) hl hb hd
          refine ⟨rfl, some false, ((hd 25 rfl).v rfl rfl), fun he => (by cases he), fun _ => ⟨rfl, rfl, rfl⟩⟩
        · intro fA wA lA val (HA : Own _ _ wA lA) hl hb hd
          refine ⟨rfl, some false, ((hd 25 rfl).v rfl rfl), fun he => (by cases he), fun _ => ⟨rfl, rfl, rfl⟩⟩
        · intro fA wA lA val (HA : Own _ _ wA lA) hl hb hd
          exact o_pickE (v := .bool false) ((hd 25 rfl).v rfl rfl) rfl ⟨rfl, HA⟩
        · intro fA wA lA val (HA : Own _ _ wA lA) hl hb hd
          exact o_moveE (v := .bool false) ((hd 31 rfl).v rfl rfl) ⟨rfl, HA⟩
        · intro fA wA lA val (HA : Own _ _ wA lA) hl hb hd
          refine ⟨rfl, some false, ((hd 32 rfl).v rfl rfl), fun he => (by cases he), fun _ => ⟨rfl, rfl, rfl⟩⟩
        · intro fA wA lA val (HA : Own _ _ wA lA) hl hb hd
          exact o_pickE (v := .bool false) ((hd 32 rfl).v rfl rfl) rfl ⟨rfl, HA⟩
        · intro fA wA lA val (HA : Own _ _ wA lA) hl hb hd
          exact o_assignE (v := .bool false) ((hd 34 rfl).v rfl rfl) ⟨rfl, HA⟩
        · intro f553 w554 val552 H555 hd556 hb557
          have H558 : Own w500 (footU [bx z129 [v384, i64 o397.2.1], row 1 v384 (o397.1).length (cel E8 o397.1), row 1 v388 (o397.2.2.1).length (cel E8 o397.2.2.1), row 1 v391 (o397.2.2.2).length (cel E8 o397.2.2.2)]) w554 [bx z129 [v384, i64 o397.2.1], row 1 v384 (o397.1).length (cel E8 o397.1), row 1 v388 (o397.2.2.1).length (cel E8 o397.2.2.1), row 1 v391 (o397.2.2.2).length (cel E8 o397.2.2.2)] := H555
          refine L_nil ?_
          refine C_ret ?_
          have hr := Option.some.inj hF
          subst hr
          exact ⟨_, resR1 rfl ((fin_v (hd556 35 (by decide)) rfl)), rfl, (HB501.trans H558).pick [] (by decide)⟩
def F_entropy_Source_More_nil (p_b : List UInt8) : Option (Unit) :=
  some ()
theorem entropy_Source_More_nil_ok {S : Nat → Prop} (vp_b : Value) (p_b : List UInt8) (w : World) (H0 : Own w (footU []) w []) (hS : ∀ b, S b → ¬ footU [] b) (hp_b : Sl S w vp_b p_b.length (cel E8 p_b)) (r : Unit) (hF : F_entropy_Source_More_nil p_b = some r) :
    Calls Try.prog 15 #[.pointer none, vp_b] w (Ret fun v w' => v = .tuple #[] ∧ Own w (footU []) w' []) := by
  have qhp_b := hp_b.in (o := (footU [])) (w0 := w) (l := []) hS
  refine calls_C Try.func15 rfl Try.ntmps15 rfl ?_
  unfold F_entropy_Source_More_nil at hF
  refine C_seq ?_
  refine C_region rfl ?_
  refine L_op (o_moveE (v := .pointer none) rfl ?_)
  refine L_op (o_nePtrNil Try.underlying26 rfl rfl ?_)
  refine L_nil ?_
  refine C_cond (b := false) rfl (fun hc101 => ?_) (fun hc101 => ?_)
  · cases hc101
  refine C_skip ?_
  have hr := Option.some.inj hF
  subst hr
  exact ⟨_, res_none rfl, rfl, (H0).pick [] (by decide)⟩
def F_entropy_Source_Draw_nil (p_b : Int) : Option (List UInt8 × Int) :=
  if ((decide (p_b < 0) || decide (4096 < p_b))) = true then
  some ([], 1)
  else
  some ([], 9)
theorem entropy_Source_Draw_nil_ok {S : Nat → Prop} (p_b : Int) (w : World) (H0 : Own w (footU []) w []) (hS : ∀ b, S b → ¬ footU [] b)  (r : List UInt8 × Int) (hF : F_entropy_Source_Draw_nil p_b = some r) :
    Calls Try.prog 16 #[.pointer none, i64 p_b] w (Ret fun v w' => ∃ (v1 : Value), v = .tuple #[v1, i64 r.2] ∧ Own w (footU []) w' [row 1 v1 (r.1).length (cel E8 r.1)]) := by
  refine calls_C Try.func16 rfl Try.ntmps16 rfl ?_
  unfold F_entropy_Source_Draw_nil at hF
  refine C_seq ?_
  refine C_region rfl ?_
  refine L_op (o_assignE (v := .slice none 0 0) rfl ?_)
  refine L_op (o_assignE (v := i64 0) rfl ?_)
  refine L_nil ?_
  refine C_seq ?_
  refine C_seqG 12 ((decide (p_b < 0) || decide (4096 < p_b))) [7, 8, 9, 10, 11, 12] ?_ ?_
  · refine C_region rfl ?_
    refine L_op (o_moveE (v := i64 p_b) rfl ?_)
    refine L_op (o_lss rfl rfl ?_)
    refine L_op (o_moveE (v := .bool (decide (p_b < 0))) rfl ?_)
    rcases Bool.eq_false_or_eq_true (decide (p_b < 0)) with hc101 | hc101
    ·
      refine L_off rfl (congrArg Value.bool hc101) ?_
      refine L_off rfl (congrArg Value.bool hc101) ?_
      refine L_op (o_pickE (v := .bool true) (congrArg Value.bool hc101) rfl ?_)
      refine L_nil ⟨rfl, congrArg Value.bool (by simp [hc101]), (same_upd (same_upd (same_upd (same_upd (same_upd (same_upd (fun _ _ => rfl) rfl) rfl) rfl) rfl) rfl) rfl)⟩
    ·
      refine L_on rfl (congrArg Value.bool hc101) (o_moveE (v := i64 p_b) rfl ?_)
      refine L_on rfl (congrArg Value.bool hc101) (o_gtr rfl rfl ?_)
      refine L_op (o_pickE (v := .bool (decide (4096 < p_b))) (congrArg Value.bool hc101) rfl ?_)
      refine L_nil ⟨rfl, congrArg Value.bool (by simp [hc101]), (same_upd (same_upd (same_upd (same_upd (same_upd (same_upd (fun _ _ => rfl) rfl) rfl) rfl) rfl) rfl) rfl)⟩
  intro f102 hd103 hs104
  refine C_cond hd103 (fun hc105 => ?_) (fun hc105 => ?_)
  · replace hF := (ifT hc105).symm.trans hF
    refine C_seq ?_
    refine C_region rfl ?_
    refine L_op (o_assignE (v := .slice none 0 0) rfl ?_)
    refine L_op (o_assignE (v := i64 1) rfl ?_)
    refine L_nil ?_
    refine C_ret ?_
    have hr := Option.some.inj hF
    subst hr
    have H106 := H0.nilRow 1 (v := .slice none 0 0) ⟨none, rfl⟩
    exact ⟨_, resR2 rfl rfl rfl, .slice none 0 0, rfl, (H106).pick [0] (by decide)⟩
  · replace hF := (ifF hc105).symm.trans hF
    refine C_skip ?_
    refine C_seq ?_
    refine C_seq ?_
    refine C_region rfl ?_
    refine L_op (o_moveE (v := .pointer none) (hs104 0 rfl) ?_)
    refine L_op (o_eqPtrNil Try.underlying26 rfl rfl ?_)
    refine L_op (o_moveE (v := .bool true) rfl ?_)
    refine L_off rfl rfl ?_
    refine L_off rfl rfl ?_
    refine L_off rfl rfl ?_
    refine L_off rfl rfl ?_
    refine L_off rfl rfl ?_
    refine L_off rfl rfl ?_
    refine L_op (o_pickE (v := .bool true) rfl rfl ?_)
    refine L_nil ?_
    refine C_cond (b := true) rfl (fun hc108 => ?_) (fun hc108 => ?_)
    rotate_left
    · cases hc108
    refine C_seq ?_
    refine C_region rfl ?_
    refine L_op (o_assignE (v := .slice none 0 0) rfl ?_)
    refine L_op (o_assignE (v := i64 9) rfl ?_)
    refine L_nil ?_
    refine C_ret ?_
    have hr := Option.some.inj hF
    subst hr
    have H109 := H0.nilRow 1 (v := .slice none 0 0) ⟨none, rfl⟩
    exact ⟨_, resR2 rfl rfl rfl, .slice none 0 0, rfl, (H109).pick [0] (by decide)⟩
def F_entropy_Source_Left_nil : Option (Int) :=
  some 0
theorem entropy_Source_Left_nil_ok {S : Nat → Prop}  (w : World) (H0 : Own w (footU []) w []) (hS : ∀ b, S b → ¬ footU [] b)  (r : Int) (hF : F_entropy_Source_Left_nil = some r) :
    Calls Try.prog 13 #[.pointer none] w (Ret fun v w' => v = i64 r ∧ Own w (footU []) w' []) := by
  refine calls_C Try.func13 rfl Try.ntmps13 rfl ?_
  unfold F_entropy_Source_Left_nil at hF
  refine C_seq ?_
  refine C_region rfl ?_
  refine L_op (o_assignE (v := i64 0) rfl ?_)
  refine L_nil ?_
  refine C_seq ?_
  refine C_seq ?_
  refine C_region rfl ?_
  refine L_op (o_moveE (v := .pointer none) rfl ?_)
  refine L_op (o_eqPtrNil Try.underlying26 rfl rfl ?_)
  refine L_nil ?_
  refine C_cond (b := true) rfl (fun hc101 => ?_) (fun hc101 => ?_)
  rotate_left
  · cases hc101
  refine C_seq ?_
  refine C_region rfl ?_
  refine L_op (o_assignE (v := i64 0) rfl ?_)
  refine L_nil ?_
  refine C_ret ?_
  have hr := Option.some.inj hF
  subst hr
  exact ⟨_, resR1 rfl rfl, rfl, (H0).pick [] (by decide)⟩
def F_entropy_Source_Drawn_nil : Option (Int) :=
  some 0
theorem entropy_Source_Drawn_nil_ok {S : Nat → Prop}  (w : World) (H0 : Own w (footU []) w []) (hS : ∀ b, S b → ¬ footU [] b)  (r : Int) (hF : F_entropy_Source_Drawn_nil = some r) :
    Calls Try.prog 14 #[.pointer none] w (Ret fun v w' => v = i64 r ∧ Own w (footU []) w' []) := by
  refine calls_C Try.func14 rfl Try.ntmps14 rfl ?_
  unfold F_entropy_Source_Drawn_nil at hF
  refine C_seq ?_
  refine C_region rfl ?_
  refine L_op (o_assignE (v := i64 0) rfl ?_)
  refine L_nil ?_
  refine C_seq ?_
  refine C_seq ?_
  refine C_region rfl ?_
  refine L_op (o_moveE (v := .pointer none) rfl ?_)
  refine L_op (o_eqPtrNil Try.underlying26 rfl rfl ?_)
  refine L_nil ?_
  refine C_cond (b := true) rfl (fun hc101 => ?_) (fun hc101 => ?_)
  rotate_left
  · cases hc101
  refine C_seq ?_
  refine C_region rfl ?_
  refine L_op (o_assignE (v := i64 0) rfl ?_)
  refine L_nil ?_
  refine C_ret ?_
  have hr := Option.some.inj hF
  subst hr
  exact ⟨_, resR1 rfl rfl, rfl, (H0).pick [] (by decide)⟩
def F_entropy_Source_Copy_nil : Option (Unit) :=
  some ()
theorem entropy_Source_Copy_nil_ok {S : Nat → Prop}  (w : World) (H0 : Own w (footU []) w []) (hS : ∀ b, S b → ¬ footU [] b)  (r : Unit) (hF : F_entropy_Source_Copy_nil = some r) :
    Calls Try.prog 17 #[.pointer none] w (Ret fun v w' => v = .pointer none ∧ Own w (footU []) w' []) := by
  refine calls_C Try.func17 rfl Try.ntmps17 rfl ?_
  unfold F_entropy_Source_Copy_nil at hF
  refine C_seq ?_
  refine C_region rfl ?_
  refine L_op (o_assignE (v := .pointer none) rfl ?_)
  refine L_nil ?_
  refine C_seq ?_
  refine C_seq ?_
  refine C_region rfl ?_
  refine L_op (o_moveE (v := .pointer none) rfl ?_)
  refine L_op (o_eqPtrNil Try.underlying26 rfl rfl ?_)
  refine L_nil ?_
  refine C_cond (b := true) rfl (fun hc101 => ?_) (fun hc101 => ?_)
  rotate_left
  · cases hc101
  refine C_seq ?_
  refine C_region rfl ?_
  refine L_op (o_assignE (v := .pointer none) rfl ?_)
  refine L_nil ?_
  refine C_ret ?_
  have hr := Option.some.inj hF
  subst hr
  exact ⟨_, resR1 rfl rfl, rfl, (H0).pick [] (by decide)⟩
def F_hypogeumlaw08_EntropyNobody (p_a : Int) (p_b : List UInt8) : Option (Bool) :=
  (appI 140737488355328 [] p_b).bind fun y105 =>
  (F_entropy_Source_More_nil y105).bind fun r114 =>
  (F_entropy_Source_Draw_nil p_a).bind fun r119 =>
  if ((decide (p_a < 0) || decide (4096 < p_a))) = true then
  if (decide ((((r119.1).length : Int)) = 0)) = true then
  if (decide (r119.2 = 1)) = true then
  (F_entropy_Source_Left_nil).bind fun r133 =>
  if (decide (r133 = 0)) = true then
  (F_entropy_Source_Drawn_nil).bind fun r139 =>
  if (decide (r139 = 0)) = true then
  (F_entropy_Source_Copy_nil).bind fun r145 =>
  (F_hypogeumlaw08_awake).bind fun r150 =>
  some r150
  else
  some false
  else
  some false
  else
  some false
  else
  some false
  else
  if (decide ((((r119.1).length : Int)) = 0)) = true then
  if (decide (r119.2 = 9)) = true then
  (F_entropy_Source_Left_nil).bind fun r157 =>
  if (decide (r157 = 0)) = true then
  (F_entropy_Source_Drawn_nil).bind fun r163 =>
  if (decide (r163 = 0)) = true then
  (F_entropy_Source_Copy_nil).bind fun r169 =>
  (F_hypogeumlaw08_awake).bind fun r174 =>
  some r174
  else
  some false
  else
  some false
  else
  some false
  else
  some false
theorem hypogeumlaw08_EntropyNobody_ok {S : Nat → Prop} (p_a : Int) (vp_b : Value) (p_b : List UInt8) (w : World) (H0 : Own w (footU []) w []) (hS : ∀ b, S b → ¬ footU [] b) (hp_b : Sl S w vp_b p_b.length (cel E8 p_b)) (r : Bool) (hF : F_hypogeumlaw08_EntropyNobody p_a p_b = some r) :
    Calls Try.prog 6 #[i64 p_a, vp_b] w (Ret fun v w' => v = .bool r ∧ Own w (footU []) w' []) := by
  have qhp_b := hp_b.in (o := (footU [])) (w0 := w) (l := []) hS
  refine calls_C Try.func6 rfl Try.ntmps6 rfl ?_
  unfold F_hypogeumlaw08_EntropyNobody at hF
  refine C_seq ?_
  refine C_region rfl ?_
  refine L_op (o_assignE (v := .bool false) rfl ?_)
  refine L_nil ?_
  refine C_seq ?_
  refine C_region rfl ?_
  refine L_op (o_assignE (v := .pointer none) rfl ?_)
  refine L_nil ?_
  refine C_seq ?_
  refine C_region rfl ?_
  refine L_op (o_moveE (v := .pointer none) rfl ?_)
  refine L_op (o_slice0 el22 H0 ?_)
  intro v101 w102 hv103 H104
  refine L_op (o_moveE (v := vp_b) rfl ?_)
  obtain ⟨y105, h106, hF⟩ := bindE hF
  obtain ⟨h107, h108⟩ := appI_some h106
  have H109 := H104.nilRow 1 (v := v101) hv103
  refine L_op (o_appendE (E := E8) (k := 0) el22 rfl H109 rfl rfl ((qhp_b.now H109)) (h107) h108 ?_)
  rintro v111 w112 _ rfl (H113 : Own w (footU []) w112 [row 1 v111 (y105).length (cel E8 y105)])
  obtain ⟨r114, h115, hF⟩ := bindE hF
  refine L_op (o_call (args := #[.pointer none, v111]) rfl Try.func15 rfl (args2 rfl rfl) (entropy_Source_More_nil_ok (S := SC [row 1 v111 (y105).length (cel E8 y105)] []) v111 y105 w112 (H113.take [] (by decide)) (SC.ok _ []) (H113.rowSCM (mem 0 rfl) [] (k := 0) rfl rfl) _ h115) ?_)
  rintro _ w116 ⟨rfl, H118⟩
  have H117 : Own w (footU []) w116 [row 1 v111 (y105).length (cel E8 y105)] := H113.back [] H118
  refine L_nil ?_
  refine C_seq ?_
  refine C_region rfl ?_
  refine L_op (o_moveE (v := .pointer none) rfl ?_)
  refine L_op (o_moveE (v := i64 p_a) rfl ?_)
  obtain ⟨r119, h120, hF⟩ := bindE hF
  refine L_op (o_call (args := #[.pointer none, i64 p_a]) rfl Try.func16 rfl (args2 rfl rfl) (entropy_Source_Draw_nil_ok (S := SC [row 1 v111 (y105).length (cel E8 y105)] []) p_a w116 (H117.take [] (by decide)) (SC.ok _ [])  _ h120) ?_)
  rintro _ w121 ⟨z123, rfl, H124⟩
  have H122 : Own w (footU []) w121 [row 1 z123 (r119.1).length (cel E8 r119.1), row 1 v111 (y105).length (cel E8 y105)] := H117.back [] H124
  refine L_op (o_moveE (v := .tuple #[z123, i64 r119.2]) rfl ?_)
  refine L_op (o_extract rfl rfl ?_)
  refine L_op (o_extract rfl rfl ?_)
  refine L_op (o_assignE (v := z123) rfl ?_)
  refine L_op (o_assignE (v := i64 r119.2) rfl ?_)
  refine L_nil ?_
  refine C_seq ?_
  refine C_region rfl ?_
  refine L_op (o_assignE (v := i64 9) rfl ?_)
  refine L_nil ?_
  refine C_seq ?_
  refine C_seqG 25 ((decide (p_a < 0) || decide (4096 < p_a))) [20, 21, 22, 23, 24, 25] ?_ ?_
  · refine C_region rfl ?_
    refine L_op (o_moveE (v := i64 p_a) rfl ?_)
    refine L_op (o_lss rfl rfl ?_)
    refine L_op (o_moveE (v := .bool (decide (p_a < 0))) rfl ?_)
    rcases Bool.eq_false_or_eq_true (decide (p_a < 0)) with hc126 | hc126
    ·
      refine L_off rfl (congrArg Value.bool hc126) ?_
      refine L_off rfl (congrArg Value.bool hc126) ?_
      refine L_op (o_pickE (v := .bool true) (congrArg Value.bool hc126) rfl ?_)
      refine L_nil ⟨rfl, congrArg Value.bool (by simp [hc126]), (same_upd (same_upd (same_upd (same_upd (same_upd (same_upd (fun _ _ => rfl) rfl) rfl) rfl) rfl) rfl) rfl)⟩
    ·
      refine L_on rfl (congrArg Value.bool hc126) (o_moveE (v := i64 p_a) rfl ?_)
      refine L_on rfl (congrArg Value.bool hc126) (o_gtr rfl rfl ?_)
      refine L_op (o_pickE (v := .bool (decide (4096 < p_a))) (congrArg Value.bool hc126) rfl ?_)
      refine L_nil ⟨rfl, congrArg Value.bool (by simp [hc126]), (same_upd (same_upd (same_upd (same_upd (same_upd (same_upd (fun _ _ => rfl) rfl) rfl) rfl) rfl) rfl) rfl)⟩
  intro f127 hd128 hs129
  refine C_cond hd128 (fun hc130 => ?_) (fun hc130 => ?_)
  · replace hF := (ifT hc130).symm.trans hF
    refine C_region rfl ?_
    refine L_op (o_assignE (v := i64 1) rfl ?_)
    refine L_nil ?_
    refine C_seq ?_
    refine C_region rfl ?_
    refine L_op (o_moveE (v := z123) (hs129 6 rfl) ?_)
    refine L_op (o_lenSl Try.underlying22 rfl (H122.rowIsM (mem 0 rfl)) ?_)
    refine L_op (o_eql rfl rfl ?_)
    refine L_op (o_moveE (v := .bool (decide ((((r119.1).length : Int)) = 0))) rfl ?_)
    rcases Bool.eq_false_or_eq_true (decide ((((r119.1).length : Int)) = 0)) with hc131 | hc131
    · replace hF := (ifT hc131).symm.trans hF
      refine L_on rfl (congrArg Value.bool hc131) (o_moveE (v := i64 r119.2) (hs129 7 rfl) ?_)
      refine L_on rfl (congrArg Value.bool hc131) (o_moveE (v := i64 1) rfl ?_)
      refine L_on rfl (congrArg Value.bool hc131) (o_eql rfl rfl ?_)
      refine L_op (o_pickE (v := .bool (decide (r119.2 = 1))) (congrArg Value.bool hc131) rfl ?_)
      refine L_op (o_moveE (v := .bool (decide (r119.2 = 1))) rfl ?_)
      rcases Bool.eq_false_or_eq_true (decide (r119.2 = 1)) with hc132 | hc132
      · replace hF := (ifT hc132).symm.trans hF
        refine L_on rfl (congrArg Value.bool hc132) (o_moveE (v := .pointer none) (hs129 5 rfl) ?_)
        obtain ⟨r133, h134, hF⟩ := bindE hF
        refine L_on rfl (congrArg Value.bool hc132) (o_call (args := #[.pointer none]) rfl Try.func13 rfl (args1 rfl) (entropy_Source_Left_nil_ok (S := SC [row 1 z123 (r119.1).length (cel E8 r119.1), row 1 v111 (y105).length (cel E8 y105)] [])  w121 (H122.take [] (by decide)) (SC.ok _ [])  _ h134) ?_)
        rintro _ w135 ⟨rfl, H137⟩
        have H136 : Own w (footU []) w135 [row 1 z123 (r119.1).length (cel E8 r119.1), row 1 v111 (y105).length (cel E8 y105)] := H122.back [] H137
        refine L_on rfl (congrArg Value.bool hc132) (o_eql rfl rfl ?_)
        refine L_op (o_pickE (v := .bool (decide (r133 = 0))) (congrArg Value.bool hc132) rfl ?_)
        refine L_op (o_moveE (v := .bool (decide (r133 = 0))) rfl ?_)
        rcases Bool.eq_false_or_eq_true (decide (r133 = 0)) with hc138 | hc138
        · replace hF := (ifT hc138).symm.trans hF
          refine L_on rfl (congrArg Value.bool hc138) (o_moveE (v := .pointer none) (hs129 5 rfl) ?_)
          obtain ⟨r139, h140, hF⟩ := bindE hF
          refine L_on rfl (congrArg Value.bool hc138) (o_call (args := #[.pointer none]) rfl Try.func14 rfl (args1 rfl) (entropy_Source_Drawn_nil_ok (S := SC [row 1 z123 (r119.1).length (cel E8 r119.1), row 1 v111 (y105).length (cel E8 y105)] [])  w135 (H136.take [] (by decide)) (SC.ok _ [])  _ h140) ?_)
          rintro _ w141 ⟨rfl, H143⟩
          have H142 : Own w (footU []) w141 [row 1 z123 (r119.1).length (cel E8 r119.1), row 1 v111 (y105).length (cel E8 y105)] := H136.back [] H143
          refine L_on rfl (congrArg Value.bool hc138) (o_eql rfl rfl ?_)
          refine L_op (o_pickE (v := .bool (decide (r139 = 0))) (congrArg Value.bool hc138) rfl ?_)
          refine L_op (o_moveE (v := .bool (decide (r139 = 0))) rfl ?_)
          rcases Bool.eq_false_or_eq_true (decide (r139 = 0)) with hc144 | hc144
          · replace hF := (ifT hc144).symm.trans hF
            refine L_on rfl (congrArg Value.bool hc144) (o_moveE (v := .pointer none) (hs129 5 rfl) ?_)
            obtain ⟨r145, h146, hF⟩ := bindE hF
            refine L_on rfl (congrArg Value.bool hc144) (o_call (args := #[.pointer none]) rfl Try.func17 rfl (args1 rfl) (entropy_Source_Copy_nil_ok (S := SC [row 1 z123 (r119.1).length (cel E8 r119.1), row 1 v111 (y105).length (cel E8 y105)] [])  w141 (H142.take [] (by decide)) (SC.ok _ [])  _ h146) ?_)
            rintro _ w147 ⟨rfl, H149⟩
            have H148 : Own w (footU []) w147 [row 1 z123 (r119.1).length (cel E8 r119.1), row 1 v111 (y105).length (cel E8 y105)] := H142.back [] H149
            refine L_on rfl (congrArg Value.bool hc144) (o_eqPtrNil Try.underlying26 rfl rfl ?_)
            refine L_op (o_pickE (v := .bool true) (congrArg Value.bool hc144) rfl ?_)
            refine L_op (o_moveE (v := .bool true) rfl ?_)
            obtain ⟨r150, h151, hF⟩ := bindE hF
            refine L_on rfl rfl (o_call (args := #[]) rfl Try.func10 rfl (args0 ) (hypogeumlaw08_awake_ok (S := SC [row 1 z123 (r119.1).length (cel E8 r119.1), row 1 v111 (y105).length (cel E8 y105)] [])  w147 (H148.take [] (by decide)) (SC.ok _ [])  _ h151) ?_)
            rintro _ w152 ⟨rfl, H154⟩
            have H153 : Own w (footU []) w152 [row 1 z123 (r119.1).length (cel E8 r119.1), row 1 v111 (y105).length (cel E8 y105)] := H148.back [] H154
            refine L_op (o_pickE (v := .bool r150) rfl rfl ?_)
            refine L_op (o_assignE (v := .bool r150) rfl ?_)
            refine L_nil ?_
            refine C_ret ?_
            have hr := Option.some.inj hF
            subst hr
            exact ⟨_, resR1 rfl rfl, rfl, (H153).pick [] (by decide)⟩
          · replace hF := (ifF hc144).symm.trans hF
            refine L_off rfl (congrArg Value.bool hc144) ?_
            refine L_off rfl (congrArg Value.bool hc144) ?_
            refine L_off rfl (congrArg Value.bool hc144) ?_
            refine L_op (o_pickE (v := .bool false) (congrArg Value.bool hc144) rfl ?_)
            refine L_op (o_moveE (v := .bool false) rfl ?_)
            refine L_off rfl rfl ?_
            refine L_op (o_pickE (v := .bool false) rfl rfl ?_)
            refine L_op (o_assignE (v := .bool false) rfl ?_)
            refine L_nil ?_
            refine C_ret ?_
            have hr := Option.some.inj hF
            subst hr
            exact ⟨_, resR1 rfl rfl, rfl, (H142).pick [] (by decide)⟩
        · replace hF := (ifF hc138).symm.trans hF
          refine L_off rfl (congrArg Value.bool hc138) ?_
          refine L_off rfl (congrArg Value.bool hc138) ?_
          refine L_off rfl (congrArg Value.bool hc138) ?_
          refine L_op (o_pickE (v := .bool false) (congrArg Value.bool hc138) rfl ?_)
          refine L_op (o_moveE (v := .bool false) rfl ?_)
          refine L_off rfl rfl ?_
          refine L_off rfl rfl ?_
          refine L_off rfl rfl ?_
          refine L_op (o_pickE (v := .bool false) rfl rfl ?_)
          refine L_op (o_moveE (v := .bool false) rfl ?_)
          refine L_off rfl rfl ?_
          refine L_op (o_pickE (v := .bool false) rfl rfl ?_)
          refine L_op (o_assignE (v := .bool false) rfl ?_)
          refine L_nil ?_
          refine C_ret ?_
          have hr := Option.some.inj hF
          subst hr
          exact ⟨_, resR1 rfl rfl, rfl, (H136).pick [] (by decide)⟩
      · replace hF := (ifF hc132).symm.trans hF
        refine L_off rfl (congrArg Value.bool hc132) ?_
        refine L_off rfl (congrArg Value.bool hc132) ?_
        refine L_off rfl (congrArg Value.bool hc132) ?_
        refine L_op (o_pickE (v := .bool false) (congrArg Value.bool hc132) rfl ?_)
        refine L_op (o_moveE (v := .bool false) rfl ?_)
        refine L_off rfl rfl ?_
        refine L_off rfl rfl ?_
        refine L_off rfl rfl ?_
        refine L_op (o_pickE (v := .bool false) rfl rfl ?_)
        refine L_op (o_moveE (v := .bool false) rfl ?_)
        refine L_off rfl rfl ?_
        refine L_off rfl rfl ?_
        refine L_off rfl rfl ?_
        refine L_op (o_pickE (v := .bool false) rfl rfl ?_)
        refine L_op (o_moveE (v := .bool false) rfl ?_)
        refine L_off rfl rfl ?_
        refine L_op (o_pickE (v := .bool false) rfl rfl ?_)
        refine L_op (o_assignE (v := .bool false) rfl ?_)
        refine L_nil ?_
        refine C_ret ?_
        have hr := Option.some.inj hF
        subst hr
        exact ⟨_, resR1 rfl rfl, rfl, (H122).pick [] (by decide)⟩
    · replace hF := (ifF hc131).symm.trans hF
      refine L_off rfl (congrArg Value.bool hc131) ?_
      refine L_off rfl (congrArg Value.bool hc131) ?_
      refine L_off rfl (congrArg Value.bool hc131) ?_
      refine L_op (o_pickE (v := .bool false) (congrArg Value.bool hc131) rfl ?_)
      refine L_op (o_moveE (v := .bool false) rfl ?_)
      refine L_off rfl rfl ?_
      refine L_off rfl rfl ?_
      refine L_off rfl rfl ?_
      refine L_op (o_pickE (v := .bool false) rfl rfl ?_)
      refine L_op (o_moveE (v := .bool false) rfl ?_)
      refine L_off rfl rfl ?_
      refine L_off rfl rfl ?_
      refine L_off rfl rfl ?_
      refine L_op (o_pickE (v := .bool false) rfl rfl ?_)
      refine L_op (o_moveE (v := .bool false) rfl ?_)
      refine L_off rfl rfl ?_
      refine L_off rfl rfl ?_
      refine L_off rfl rfl ?_
      refine L_op (o_pickE (v := .bool false) rfl rfl ?_)
      refine L_op (o_moveE (v := .bool false) rfl ?_)
      refine L_off rfl rfl ?_
      refine L_op (o_pickE (v := .bool false) rfl rfl ?_)
      refine L_op (o_assignE (v := .bool false) rfl ?_)
      refine L_nil ?_
      refine C_ret ?_
      have hr := Option.some.inj hF
      subst hr
      exact ⟨_, resR1 rfl rfl, rfl, (H122).pick [] (by decide)⟩
  · replace hF := (ifF hc130).symm.trans hF
    refine C_skip ?_
    refine C_seq ?_
    refine C_region rfl ?_
    refine L_op (o_moveE (v := z123) (hs129 6 rfl) ?_)
    refine L_op (o_lenSl Try.underlying22 rfl (H122.rowIsM (mem 0 rfl)) ?_)
    refine L_op (o_eql rfl rfl ?_)
    refine L_op (o_moveE (v := .bool (decide ((((r119.1).length : Int)) = 0))) rfl ?_)
    rcases Bool.eq_false_or_eq_true (decide ((((r119.1).length : Int)) = 0)) with hc155 | hc155
    · replace hF := (ifT hc155).symm.trans hF
      refine L_on rfl (congrArg Value.bool hc155) (o_moveE (v := i64 r119.2) (hs129 7 rfl) ?_)
      refine L_on rfl (congrArg Value.bool hc155) (o_moveE (v := i64 9) (hs129 8 rfl) ?_)
      refine L_on rfl (congrArg Value.bool hc155) (o_eql rfl rfl ?_)
      refine L_op (o_pickE (v := .bool (decide (r119.2 = 9))) (congrArg Value.bool hc155) rfl ?_)
      refine L_op (o_moveE (v := .bool (decide (r119.2 = 9))) rfl ?_)
      rcases Bool.eq_false_or_eq_true (decide (r119.2 = 9)) with hc156 | hc156
      · replace hF := (ifT hc156).symm.trans hF
        refine L_on rfl (congrArg Value.bool hc156) (o_moveE (v := .pointer none) (hs129 5 rfl) ?_)
        obtain ⟨r157, h158, hF⟩ := bindE hF
        refine L_on rfl (congrArg Value.bool hc156) (o_call (args := #[.pointer none]) rfl Try.func13 rfl (args1 rfl) (entropy_Source_Left_nil_ok (S := SC [row 1 z123 (r119.1).length (cel E8 r119.1), row 1 v111 (y105).length (cel E8 y105)] [])  w121 (H122.take [] (by decide)) (SC.ok _ [])  _ h158) ?_)
        rintro _ w159 ⟨rfl, H161⟩
        have H160 : Own w (footU []) w159 [row 1 z123 (r119.1).length (cel E8 r119.1), row 1 v111 (y105).length (cel E8 y105)] := H122.back [] H161
        refine L_on rfl (congrArg Value.bool hc156) (o_eql rfl rfl ?_)
        refine L_op (o_pickE (v := .bool (decide (r157 = 0))) (congrArg Value.bool hc156) rfl ?_)
        refine L_op (o_moveE (v := .bool (decide (r157 = 0))) rfl ?_)
        rcases Bool.eq_false_or_eq_true (decide (r157 = 0)) with hc162 | hc162
        · replace hF := (ifT hc162).symm.trans hF
          refine L_on rfl (congrArg Value.bool hc162) (o_moveE (v := .pointer none) (hs129 5 rfl) ?_)
          obtain ⟨r163, h164, hF⟩ := bindE hF
          refine L_on rfl (congrArg Value.bool hc162) (o_call (args := #[.pointer none]) rfl Try.func14 rfl (args1 rfl) (entropy_Source_Drawn_nil_ok (S := SC [row 1 z123 (r119.1).length (cel E8 r119.1), row 1 v111 (y105).length (cel E8 y105)] [])  w159 (H160.take [] (by decide)) (SC.ok _ [])  _ h164) ?_)
          rintro _ w165 ⟨rfl, H167⟩
          have H166 : Own w (footU []) w165 [row 1 z123 (r119.1).length (cel E8 r119.1), row 1 v111 (y105).length (cel E8 y105)] := H160.back [] H167
          refine L_on rfl (congrArg Value.bool hc162) (o_eql rfl rfl ?_)
          refine L_op (o_pickE (v := .bool (decide (r163 = 0))) (congrArg Value.bool hc162) rfl ?_)
          refine L_op (o_moveE (v := .bool (decide (r163 = 0))) rfl ?_)
          rcases Bool.eq_false_or_eq_true (decide (r163 = 0)) with hc168 | hc168
          · replace hF := (ifT hc168).symm.trans hF
            refine L_on rfl (congrArg Value.bool hc168) (o_moveE (v := .pointer none) (hs129 5 rfl) ?_)
            obtain ⟨r169, h170, hF⟩ := bindE hF
            refine L_on rfl (congrArg Value.bool hc168) (o_call (args := #[.pointer none]) rfl Try.func17 rfl (args1 rfl) (entropy_Source_Copy_nil_ok (S := SC [row 1 z123 (r119.1).length (cel E8 r119.1), row 1 v111 (y105).length (cel E8 y105)] [])  w165 (H166.take [] (by decide)) (SC.ok _ [])  _ h170) ?_)
            rintro _ w171 ⟨rfl, H173⟩
            have H172 : Own w (footU []) w171 [row 1 z123 (r119.1).length (cel E8 r119.1), row 1 v111 (y105).length (cel E8 y105)] := H166.back [] H173
            refine L_on rfl (congrArg Value.bool hc168) (o_eqPtrNil Try.underlying26 rfl rfl ?_)
            refine L_op (o_pickE (v := .bool true) (congrArg Value.bool hc168) rfl ?_)
            refine L_op (o_moveE (v := .bool true) rfl ?_)
            obtain ⟨r174, h175, hF⟩ := bindE hF
            refine L_on rfl rfl (o_call (args := #[]) rfl Try.func10 rfl (args0 ) (hypogeumlaw08_awake_ok (S := SC [row 1 z123 (r119.1).length (cel E8 r119.1), row 1 v111 (y105).length (cel E8 y105)] [])  w171 (H172.take [] (by decide)) (SC.ok _ [])  _ h175) ?_)
            rintro _ w176 ⟨rfl, H178⟩
            have H177 : Own w (footU []) w176 [row 1 z123 (r119.1).length (cel E8 r119.1), row 1 v111 (y105).length (cel E8 y105)] := H172.back [] H178
            refine L_op (o_pickE (v := .bool r174) rfl rfl ?_)
            refine L_op (o_assignE (v := .bool r174) rfl ?_)
            refine L_nil ?_
            refine C_ret ?_
            have hr := Option.some.inj hF
            subst hr
            exact ⟨_, resR1 rfl rfl, rfl, (H177).pick [] (by decide)⟩
          · replace hF := (ifF hc168).symm.trans hF
            refine L_off rfl (congrArg Value.bool hc168) ?_
            refine L_off rfl (congrArg Value.bool hc168) ?_
            refine L_off rfl (congrArg Value.bool hc168) ?_
            refine L_op (o_pickE (v := .bool false) (congrArg Value.bool hc168) rfl ?_)
            refine L_op (o_moveE (v := .bool false) rfl ?_)
            refine L_off rfl rfl ?_
            refine L_op (o_pickE (v := .bool false) rfl rfl ?_)
            refine L_op (o_assignE (v := .bool false) rfl ?_)
            refine L_nil ?_
            refine C_ret ?_
            have hr := Option.some.inj hF
            subst hr
            exact ⟨_, resR1 rfl rfl, rfl, (H166).pick [] (by decide)⟩
        · replace hF := (ifF hc162).symm.trans hF
          refine L_off rfl (congrArg Value.bool hc162) ?_
          refine L_off rfl (congrArg Value.bool hc162) ?_
          refine L_off rfl (congrArg Value.bool hc162) ?_
          refine L_op (o_pickE (v := .bool false) (congrArg Value.bool hc162) rfl ?_)
          refine L_op (o_moveE (v := .bool false) rfl ?_)
          refine L_off rfl rfl ?_
          refine L_off rfl rfl ?_
          refine L_off rfl rfl ?_
          refine L_op (o_pickE (v := .bool false) rfl rfl ?_)
          refine L_op (o_moveE (v := .bool false) rfl ?_)
          refine L_off rfl rfl ?_
          refine L_op (o_pickE (v := .bool false) rfl rfl ?_)
          refine L_op (o_assignE (v := .bool false) rfl ?_)
          refine L_nil ?_
          refine C_ret ?_
          have hr := Option.some.inj hF
          subst hr
          exact ⟨_, resR1 rfl rfl, rfl, (H160).pick [] (by decide)⟩
      · replace hF := (ifF hc156).symm.trans hF
        refine L_off rfl (congrArg Value.bool hc156) ?_
        refine L_off rfl (congrArg Value.bool hc156) ?_
        refine L_off rfl (congrArg Value.bool hc156) ?_
        refine L_op (o_pickE (v := .bool false) (congrArg Value.bool hc156) rfl ?_)
        refine L_op (o_moveE (v := .bool false) rfl ?_)
        refine L_off rfl rfl ?_
        refine L_off rfl rfl ?_
        refine L_off rfl rfl ?_
        refine L_op (o_pickE (v := .bool false) rfl rfl ?_)
        refine L_op (o_moveE (v := .bool false) rfl ?_)
        refine L_off rfl rfl ?_
        refine L_off rfl rfl ?_
        refine L_off rfl rfl ?_
        refine L_op (o_pickE (v := .bool false) rfl rfl ?_)
        refine L_op (o_moveE (v := .bool false) rfl ?_)
        refine L_off rfl rfl ?_
        refine L_op (o_pickE (v := .bool false) rfl rfl ?_)
        refine L_op (o_assignE (v := .bool false) rfl ?_)
        refine L_nil ?_
        refine C_ret ?_
        have hr := Option.some.inj hF
        subst hr
        exact ⟨_, resR1 rfl rfl, rfl, (H122).pick [] (by decide)⟩
    · replace hF := (ifF hc155).symm.trans hF
      refine L_off rfl (congrArg Value.bool hc155) ?_
      refine L_off rfl (congrArg Value.bool hc155) ?_
      refine L_off rfl (congrArg Value.bool hc155) ?_
      refine L_op (o_pickE (v := .bool false) (congrArg Value.bool hc155) rfl ?_)
      refine L_op (o_moveE (v := .bool false) rfl ?_)
      refine L_off rfl rfl ?_
      refine L_off rfl rfl ?_
      refine L_off rfl rfl ?_
      refine L_op (o_pickE (v := .bool false) rfl rfl ?_)
      refine L_op (o_moveE (v := .bool false) rfl ?_)
      refine L_off rfl rfl ?_
      refine L_off rfl rfl ?_
      refine L_off rfl rfl ?_
      refine L_op (o_pickE (v := .bool false) rfl rfl ?_)
      refine L_op (o_moveE (v := .bool false) rfl ?_)
      refine L_off rfl rfl ?_
      refine L_off rfl rfl ?_
      refine L_off rfl rfl ?_
      refine L_op (o_pickE (v := .bool false) rfl rfl ?_)
      refine L_op (o_moveE (v := .bool false) rfl ?_)
      refine L_off rfl rfl ?_
      refine L_op (o_pickE (v := .bool false) rfl rfl ?_)
      refine L_op (o_assignE (v := .bool false) rfl ?_)
      refine L_nil ?_
      refine C_ret ?_
      have hr := Option.some.inj hF
      subst hr
      exact ⟨_, resR1 rfl rfl, rfl, (H122).pick [] (by decide)⟩
end Hyp
