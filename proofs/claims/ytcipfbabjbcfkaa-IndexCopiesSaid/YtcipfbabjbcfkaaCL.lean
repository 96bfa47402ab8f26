/- The laws of the index in plain words: what is listed, in order. -/
import Derived.Test.YtcipfbabjbcfkaaCB
import Derived.Test.YtcipfbabjbcfkaaSd
set_option linter.unusedVariables false
set_option linter.unusedSimpArgs false
namespace Go.Proofs.Ytcipfbabjbcfkaa
open Hyp
theorem R_ite_t {α : Type} {b : Bool} {x y : Tree α} {Q : α → Prop} (h : b = true) (hx : x.Runs Q) : (Tree.ite b x y).Runs Q := ⟨fun _ => hx, fun h2 => absurd (h.symm.trans h2) (by decide)⟩
theorem R_ite_f {α : Type} {b : Bool} {x y : Tree α} {Q : α → Prop} (h : b = false) (hx : y.Runs Q) : (Tree.ite b x y).Runs Q := ⟨fun h2 => absurd (h.symm.trans h2) (by decide), fun _ => hx⟩
theorem R_get {α β : Type} {o : Option β} {k : β → Tree α} {Q : α → Prop} (y : β) (h : o = some y) (hk : (k y).Runs Q) : (Tree.get o k).Runs Q := Exists.intro y (And.intro h hk)
theorem R_sub {α β : Type} {t : Tree β} {k : β → Tree α} {P : β → Prop} {Q : α → Prop} (h : t.Runs P) (hk : ∀ y, P y → (k y).Runs Q) : (Tree.sub t k).Runs Q := Tree.Runs.mono (t := t) h hk
theorem R_run {α β : Type} {t : Tree β} {k : β → Tree α} {a : β} {Q : α → Prop} (h : t.run = some a) (hk : (k a).Runs Q) : (Tree.sub t k).Runs Q := (Tree.runs_run (t := t) h).2 hk
theorem run_l {α β γ : Type} {y : β} {k : β → Tree α} {l : γ → Tree α} : (Tree.alt (.inl y) k l).run = (k y).run := rfl
theorem run_r {α β γ : Type} {y : γ} {k : β → Tree α} {l : γ → Tree α} : (Tree.alt (.inr y) k l).run = (l y).run := rfl
theorem inI32 {i : Nat} (h : i < 32) : inI 32 (i : Int) = some i := inI_nat h
/-- Which stands ahead. -/
theorem before_loop (n : Nat) (ka kb : Int) (a b : List UInt8) (na nb : List UInt8) (oa sa ob sb : Int) (ha : a.length = 32) (hb : b.length = 32) : ∀ (k i : Nat), 32 < i + k → i ≤ 32 →
    (F_r20_Before_l0 n k (i : Int) ka a na oa sa kb b nb ob sb).run = some (if Go.Lib.compareBytes (a.drop i) (b.drop i) = 0 then .inr () else .inl (decide (Go.Lib.compareBytes (a.drop i) (b.drop i) < 0)))
  | 0, i, h, h' => by omega
  | k + 1, i, h, h' => by
    unfold F_r20_Before_l0
    by_cases hi : i < 32
    · have e1 : decide ((i : Int) < 32) = true := by simp; omega
      have e2 : a[i]? = some (a[i]'(by omega)) := List.getElem?_eq_getElem (by omega)
      have e3 : b[i]? = some (b[i]'(by omega)) := List.getElem?_eq_getElem (by omega)
      have e4 : Go.Lib.compareBytes (a.drop i) (b.drop i) = if a[i]'(by omega) < b[i]'(by omega) then -1 else if b[i]'(by omega) < a[i]'(by omega) then 1 else Go.Lib.compareBytes (a.drop (i + 1)) (b.drop (i + 1)) := by
        rw [List.drop_eq_getElem_cons (show i < a.length by omega), List.drop_eq_getElem_cons (show i < b.length by omega)]; rfl
      simp only [Tree.run, e1, cond_true, inI32 hi, Option.bind_some, e2, e3]
      rw [e4]
      generalize a[i]'(by omega) = x
      generalize b[i]'(by omega) = y
      by_cases hxy : x = y
      · subst hxy
        simp only [decide_true, Bool.not_true, cond_false, UInt8.lt_irrefl, if_false]
        rw [wrap_succ (i := i) (m := 32) hi (by omega), before_loop n ka kb a b na nb oa sa ob sb ha hb k (i + 1) (by omega) hi]
        by_cases hz : Go.Lib.compareBytes (a.drop (i + 1)) (b.drop (i + 1)) = 0
        · simp only [hz, if_true, Option.bind_some, run_r, Tree.run]
        · simp only [hz, if_false, Option.bind_some, run_l, Tree.run]
      · simp only [decide_eq_false hxy, Bool.not_false, cond_true]
        by_cases h1 : x < y
        · simp only [h1, if_true, decide_true]
          rfl
        · have h2 : y < x := by
            rw [UInt8.lt_iff_toNat_lt] at h1 ⊢
            have : x.toNat ≠ y.toNat := fun e => hxy (UInt8.toNat_inj.1 e)
            omega
          simp only [h1, h2, if_false, if_true, decide_false]
          rfl
    · have e1 : decide ((i : Int) < 32) = false := by simp; omega
      have : i = 32 := by omega
      subst this
      simp only [Tree.run, e1, cond_false]
      rw [List.drop_eq_nil_iff.2 (by omega), List.drop_eq_nil_iff.2 (by omega)]
      rfl
theorem before_run {n : Nat} (hn : 33 ≤ n) (x y : Ent) (hx : x.2.1.length = 32) (hy : y.2.1.length = 32) : (F_r20_Before n x.1 x.2.1 x.2.2.1 x.2.2.2.1 x.2.2.2.2 y.1 y.2.1 y.2.2.1 y.2.2.2.1 y.2.2.2.2).run = some (decide (ordK x y < 0)) := by
  unfold F_r20_Before ordK
  by_cases hk : x.1 = y.1
  · have e := before_loop n x.1 y.1 x.2.1 y.2.1 x.2.2.1 y.2.2.1 x.2.2.2.1 x.2.2.2.2 y.2.2.2.1 y.2.2.2.2 hx hy n 0 (by omega) (by omega)
    rw [List.drop_zero, List.drop_zero] at e
    simp only [Tree.run, decide_eq_true hk, Bool.not_true, cond_false, if_pos hk]
    rw [show ((0 : Nat) : Int) = (0 : Int) from rfl] at e
    rw [e]
    by_cases hz : Go.Lib.compareBytes x.2.1 y.2.1 = 0
    · simp only [hz, if_true, Option.bind_some, run_r, Tree.run]
      rfl
    · simp only [hz, if_false, Option.bind_some, run_l, Tree.run]
  · simp only [Tree.run, decide_eq_false hk, Bool.not_false, cond_true, if_neg hk]
    congr 1
    rw [Bool.eq_iff_iff, decide_eq_true_eq, decide_eq_true_eq]; omega
/-- How many stand ahead, one behind the other. -/
def ahead (x : Ent) : List Ent → Nat
  | [] => 0
  | y :: l => if ordK y x < 0 then ahead x l + 1 else 0
theorem ahead_le (x : Ent) : ∀ l : List Ent, ahead x l ≤ l.length
  | [] => Nat.le_refl _
  | y :: l => by
    unfold ahead
    split
    · exact Nat.succ_le_succ (ahead_le x l)
    · exact Nat.zero_le _
theorem at_loop {n : Nat} (hn : 33 ≤ n) (c : Bool) (l out : List Ent) {i : Nat} (hi : i < l.length) (h1 : ∀ e ∈ l, e.2.1.length = 32) (h2 : ∀ e ∈ out, e.2.1.length = 32) (hl : out.length ≤ 1000) : ∀ (k j : Nat), out.length < j + k → j ≤ out.length →
    (F_r20_Index_List_l2 n k (i : Int) (j : Int) c l out).run = some ((j + ahead l[i] (out.drop j) : Nat) : Int)
  | 0, j, h, h' => by omega
  | k + 1, j, h, h' => by
    unfold F_r20_Index_List_l2
    by_cases hj : j < out.length
    · have e1 : decide ((j : Int) < (out.length : Int)) = true := by simp; omega
      have e2 : out[0 + j]? = some out[j] := by rw [Nat.zero_add]; exact List.getElem?_eq_getElem hj
      simp only [Tree.run, e1, cond_true, inI_nat hj, Option.bind_some, e2, getI_at' hi]
      rw [before_run hn out[j] l[i] (h2 _ (List.getElem_mem hj)) (h1 _ (List.getElem_mem hi)), Option.bind_some]
      rw [List.drop_eq_getElem_cons hj]
      unfold ahead
      by_cases hb : ordK out[j] l[i] < 0
      · simp only [decide_eq_true hb, cond_true, if_pos hb]
        rw [wrap_succ hj (by omega), at_loop hn c l out hi h1 h2 hl k (j + 1) (by omega) hj]
        simp only [Option.bind_some, Option.some.injEq]
        omega
      · simp only [decide_eq_false hb, cond_false, if_neg hb]
        rfl
    · have e1 : decide ((j : Int) < (out.length : Int)) = false := by simp; omega
      have : out.drop j = [] := List.drop_eq_nil_iff.2 (by omega)
      rw [this]
      simp only [Tree.run, e1, cond_false]
      rfl
/-- x put among them. -/
def ins (x : Ent) (out : List Ent) : List Ent := out.take (ahead x out) ++ x :: out.drop (ahead x out)
theorem ins_perm (x : Ent) (out : List Ent) : (ins x out).Perm (x :: out) := by
  unfold ins
  refine List.perm_middle.trans ?_
  rw [List.take_append_drop]
theorem ins_srt (x : Ent) : ∀ {out : List Ent}, SrtK out → SrtK (ins x out)
  | [], _ => List.pairwise_singleton _ _
  | y :: l, h => by
    obtain ⟨h1, h2⟩ := List.pairwise_cons.1 h
    unfold ins ahead
    by_cases hb : ordK y x < 0
    · rw [if_pos hb, List.take_succ_cons, List.drop_succ_cons, List.cons_append]
      refine List.pairwise_cons.2 ⟨fun z hz => ?_, ins_srt x h2⟩
      have : z ∈ x :: l := (ins_perm x l).mem_iff.1 hz
      rcases List.mem_cons.1 this with rfl | hz
      · exact Int.le_of_lt hb
      · exact h1 z hz
    · rw [if_neg hb, List.take_zero, List.drop_zero, List.nil_append]
      have hxy : ordK x y ≤ 0 := by have := ordK_neg x y; omega
      refine List.pairwise_cons.2 ⟨fun z hz => ?_, h⟩
      rcases List.mem_cons.1 hz with rfl | hz
      · exact hxy
      · exact ordK_le_trans hxy (h1 z hz)
theorem kap {acc l : List Ent} (h : acc.length + l.length ≤ 1000000) : appI 1954687338268 acc l = some (acc ++ l) := by unfold appI; rw [if_pos (by omega)]
theorem rlist_loop {n : Nat} (hn : 1000 ≤ n) (c : Bool) (l : List Ent) (h1 : ∀ e ∈ l, e.2.1.length = 32) (hl : l.length ≤ 900) : ∀ (k i : Nat) (out : List Ent), out.length ≤ i → (∀ e ∈ out, e.2.1.length = 32) → SrtK out → l.length < i + k → i ≤ l.length →
    ∃ r, (F_r20_Index_List_l0 n k (i : Int) c l out).run = some r ∧ ∃ ys, (match r with | .inl _ => out | .inr q => q) = ys ∧ SrtK ys ∧ ys.Perm (out ++ l.drop i)
  | 0, i, out, ho, h2, hs, h, h' => by omega
  | k + 1, i, out, ho, h2, hs, h, h' => by
    unfold F_r20_Index_List_l0
    by_cases hi : i < l.length
    · have e1 : decide ((i : Int) < (l.length : Int)) = true := by simp; omega
      have e2 := at_loop (n := n) (by omega) c l out hi h1 h2 (by omega) n 0 (by omega) (by omega)
      rw [List.drop_zero, Nat.zero_add] at e2
      have hA := ahead_le l[i] out
      have e3 : (if ((0 : Int) ≤ (0 : Int)) ∧ ((0 : Int) ≤ ((ahead l[i] out : Nat) : Int)) ∧ (((ahead l[i] out : Nat) : Int) ≤ (out.length : Int)) then some () else none) = some () := if_pos ⟨by omega, by omega, by omega⟩
      have e4 : (if ((0 : Int) ≤ ((ahead l[i] out : Nat) : Int)) ∧ (((ahead l[i] out : Nat) : Int) ≤ (out.length : Int)) ∧ ((out.length : Int) ≤ (out.length : Int)) then some () else none) = some () := if_pos ⟨by omega, by omega, by omega⟩
      simp only [Tree.run, e1, cond_true]
      rw [show ((0 : Nat) : Int) = (0 : Int) from rfl] at e2
      rw [e2]
      simp only [Option.bind_some]
      rw [e3]
      simp only [Option.bind_some, getI_at' hi, List.set_cons_zero, Int.toNat_natCast, Nat.sub_zero, List.drop_zero, Nat.zero_add]
      rw [kap (acc := []) (by simp; omega)]
      simp only [Option.bind_some, List.nil_append]
      rw [kap (by simp; omega), Option.bind_some, e4, Option.bind_some, kap (by simp; omega), Option.bind_some, wrap_succ hi (by omega)]
      have ei : List.take (ahead l[i] out) out ++ [(l[i].1, l[i].2.1, l[i].2.2.1, l[i].2.2.2.1, l[i].2.2.2.2)] ++ List.take (out.length - ahead l[i] out) (List.drop (ahead l[i] out) out) = ins l[i] out := by
        rw [List.take_of_length_le (l := List.drop (ahead l[i] out) out) (by simp), List.append_assoc]; rfl
      rw [ei]
      have hp := ins_perm l[i] out
      obtain ⟨r, g1, ys, g2, g3, g4⟩ := rlist_loop hn c l h1 hl k (i + 1) (ins l[i] out) (by rw [hp.length_eq]; simpa using ho) (fun e he => by
        rcases List.mem_cons.1 (hp.mem_iff.1 he) with rfl | he
        · exact h1 _ (List.getElem_mem hi)
        · exact h2 e he) (ins_srt _ hs) (by omega) hi
      rw [g1]
      have hfin : ys.Perm (out ++ l.drop i) := by
        rw [List.drop_eq_getElem_cons hi]
        exact g4.trans ((hp.append_right _).trans List.perm_middle.symm)
      cases r with
      | inl u => exact ⟨_, rfl, ys, g2, g3, hfin⟩
      | inr q => exact ⟨_, rfl, ys, g2, g3, hfin⟩
    · have e1 : decide ((i : Int) < (l.length : Int)) = false := by simp; omega
      refine ⟨.inl (), by simp only [Tree.run, e1, cond_false], out, rfl, hs, ?_⟩
      rw [List.drop_eq_nil_iff.2 (by omega), List.append_nil]
/-- What the document lists: sorted. -/
theorem rlist_run {n : Nat} (hn : 1000 ≤ n) (c : Bool) (l : List Ent) (h1 : ∀ e ∈ l, e.2.1.length = 32) (hl : l.length ≤ 900) : ∃ ys, (F_r20_Index_List n c l).run = some ys ∧ SrtK ys ∧ ys.Perm l := by
  unfold F_r20_Index_List
  obtain ⟨r, g1, ys, g2, g3, g4⟩ := rlist_loop hn c l h1 hl n 0 [] (Nat.le_refl _) (by simp) .nil (by omega) (by omega)
  rw [show ((0 : Nat) : Int) = (0 : Int) from rfl] at g1
  simp only [Tree.run, g1, Option.bind_some]
  rw [List.nil_append, List.drop_zero] at g4
  cases r with
  | inl u => exact ⟨_, rfl, by rw [show ([] : List Ent) = ys from g2]; exact g3, by rw [show ([] : List Ent) = ys from g2]; exact g4⟩
  | inr q => exact ⟨q, rfl, by rw [show q = ys from g2]; exact g3, by rw [show q = ys from g2]; exact g4⟩
theorem flat_good {m : Mp} (h : InvM m) : goodK (flat m) = true := by
  rw [goodK_iff]
  refine ⟨fun x hx => ?_, ?_⟩
  · obtain ⟨p, hp, rfl⟩ := List.mem_map.1 hx
    have := (h.ok p hp).1
    unfold right at this
    simp only [Bool.and_eq_true, decide_eq_true_eq] at this
    exact ⟨by omega, by omega⟩
  · unfold flat
    rw [List.pairwise_map]
    have := h.nd
    rw [List.Nodup, List.pairwise_map] at this
    exact this.imp fun {a b} hab hh => hab (Prod.ext hh.1 hh.2)
theorem flat_id {m : Mp} (h : InvM m) : ∀ e ∈ flat m, e.2.1.length = 32 := by
  intro e he
  obtain ⟨p, hp, rfl⟩ := List.mem_map.1 he
  exact (h.ok p hp).2
/-- What the index lists. -/
def srt (l : List Ent) : List Ent := l.mergeSort fun x y => !decide (ordK y x < 0)
theorem plist_run {n : Nat} (hn : 1000 ≤ n) {m : Mp} (h : InvM m) (hm : m.length ≤ 900) : (F_index_Index_List n m).run = some (srt (flat m)) := by
  unfold F_index_Index_List D_list
  rw [if_pos ⟨by omega, by omega⟩]
  unfold sortF
  have e : m.map kflat = flat m := rfl
  rw [e, if_pos ⟨flat_good h, by rw [flat_len]; omega⟩]
  rfl
theorem lists_same {n : Nat} (hn : 1000 ≤ n) (c : Bool) {m : Mp} (h : InvM m) {l : List Ent} (hl : l.Perm (flat m)) (hm : m.length ≤ 900) : (F_r20_Index_List n c l).run = some (srt (flat m)) := by
  obtain ⟨ys, g1, g2, g3⟩ := rlist_run hn c l (fun e he => flat_id h e (hl.mem_iff.1 he)) (by rw [hl.length_eq, flat_len]; exact hm)
  rw [g1]
  congr 1
  refine srt_uniq (goodK_perm (g3.trans hl).symm (flat_good h)) g2 (msort_srt _) ((g3.trans hl).trans (List.mergeSort_perm _ _).symm)
theorem same_loop (n : Nat) (l : List Ent) (hl : l.length ≤ 100000) : ∀ (k i : Nat), l.length < i + k → i ≤ l.length → (F_r20_Same_l0 n k (i : Int) l l).run = some (.inr ())
  | 0, i, h, h' => by omega
  | k + 1, i, h, h' => by
    unfold F_r20_Same_l0
    by_cases hi : i < l.length
    · have e1 : decide ((i : Int) < (l.length : Int)) = true := by simp; omega
      have e2 : l[0 + i]? = some l[i] := by rw [Nat.zero_add]; exact List.getElem?_eq_getElem hi
      have e3 : ∀ t : Ty, ∀ x : t.den, eqV t x x = true := fun t x => eqV_self
      simp only [Tree.run, e1, cond_true, inI_nat hi, Option.bind_some, e2, e3, Bool.not_true, cond_false]
      rw [wrap_succ hi (by omega), same_loop n l hl k (i + 1) (by omega) hi]
      rfl
    · have e1 : decide ((i : Int) < (l.length : Int)) = false := by simp; omega
      simp only [Tree.run, e1, cond_false]
theorem same_run {n : Nat} (l : List Ent) (hn : l.length < n) (hl : l.length ≤ 100000) : (F_r20_Same n l l).run = some true := by
  unfold F_r20_Same
  have e := same_loop n l hl n 0 (by omega) (by omega)
  rw [show ((0 : Nat) : Int) = (0 : Int) from rfl] at e
  simp only [Tree.run, decide_true, Bool.not_true, cond_false, e, Option.bind_some]
theorem srt_len (l : List Ent) : (srt l).length = l.length := List.length_mergeSort _
def fuel : List Ent → Nat
  | [] => 0
  | e :: l => e.2.2.1.length + fuel l
theorem fuel_le : ∀ {l : List Ent} {e : Ent}, e ∈ l → e.2.2.1.length ≤ fuel l
  | x :: l, e, h => by
    rcases List.mem_cons.1 h with rfl | h
    · exact Nat.le_add_right _ _
    · exact Nat.le_trans (fuel_le h) (Nat.le_add_left _ _)
theorem awake_run (n : Nat) : (F_w20_awake (n + 1000)).run = some true := by kernel_rfl
abbrev KTL : Ty := .list (.rcd (.pair (.sint .i64) (.pair (.arr 32 .u8) (.rcd (.pair .str (.pair (.sint .i64) (.sint .i64)))))))
theorem arg_facts {xs : List Ent} (g : KTL.ok xs) {n : Nat} (hf : fuel xs ≤ n) : xs.length ≤ 9223372036854775807 ∧ (∀ e ∈ xs, e.2.2.1.length < n + 1000) ∧ (∀ e ∈ xs, e.2.2.1.length ≤ 9223372036854775807) ∧ (∀ e ∈ xs, e.2.1.length = 32) := by
  refine ⟨Nat.le_trans g.1 (by decide), fun e he => by have := fuel_le he; omega, fun e he => Nat.le_trans (g.2 e he).2.2.1 (by decide), fun e he => (g.2 e he).2.1.1⟩
end Go.Proofs.Ytcipfbabjbcfkaa
