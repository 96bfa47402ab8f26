/- ManifestTexts in plain words. -/
import Derived.Test.YtdlbmjbbnplpjaaMJ
set_option linter.unusedVariables false
set_option linter.unusedSimpArgs false
namespace Go.Proofs.Ytdlbmjbbnplpjaa
open Hyp
theorem same_l0 (n : Nat) (g st ep nx g' st' ep' nx' : Int) (c1 c2 c3 c4 : Bool) (sn sn' : Sn) {sh : Sh} (hs : sh.length ≤ 9223372036854775806) : ∀ (k i : Nat), i ≤ sh.length → sh.length < i + k → (F_r23_Same_l0 n k (i : Int) g st ep nx c1 sh c2 sn g' st' ep' nx' c3 sh c4 sn').run = some (.inr ())
  | 0, i, h, h2 => by omega
  | k + 1, i, h, h2 => by
    unfold F_r23_Same_l0
    by_cases hi : i < sh.length
    · have e1 : decide ((i : Int) < ln sh) = true := by simp [ln]; omega
      have e2 : getI sh (i : Int) = some sh[i] := getI_lt hi
      have e3 : eqV T1 (sh[i].1, sh[i].2) (sh[i].1, sh[i].2) = true := (eqV_iff T1 _ _).2 rfl
      have e4 := same_l0 n g st ep nx g' st' ep' nx' c1 c2 c3 c4 sn sn' hs k (i + 1) (by omega) (by omega)
      rw [← w64_succ (by omega)] at e4
      simp only [Tree.run, e1, cond_true, e2, e3, e4, Option.bind_some, Bool.not_true, cond_false, run_r]
    · have e1 : decide ((i : Int) < ln sh) = false := by simp [ln]; omega
      simp only [Tree.run, e1, cond_false]
theorem same_l2 (n : Nat) (g st ep nx g' st' ep' nx' : Int) (c1 c2 c3 c4 : Bool) (sh sh' : Sh) {sn : Sn} (hs : sn.length ≤ 9223372036854775806) : ∀ (k i : Nat), i ≤ sn.length → sn.length < i + k → (F_r23_Same_l2 n k (i : Int) g st ep nx c1 sh c2 sn g' st' ep' nx' c3 sh' c4 sn).run = some (.inr ())
  | 0, i, h, h2 => by omega
  | k + 1, i, h, h2 => by
    unfold F_r23_Same_l2
    by_cases hi : i < sn.length
    · have e1 : decide ((i : Int) < ln sn) = true := by simp [ln]; omega
      have e2 : getI sn (i : Int) = some sn[i] := getI_lt hi
      have e3 : eqV T2 (sn[i].1, sn[i].2) (sn[i].1, sn[i].2) = true := (eqV_iff T2 _ _).2 rfl
      have e4 := same_l2 n g st ep nx g' st' ep' nx' c1 c2 c3 c4 sh sh' hs k (i + 1) (by omega) (by omega)
      rw [← w64_succ (by omega)] at e4
      simp only [Tree.run, e1, cond_true, e2, e3, e4, Option.bind_some, Bool.not_true, cond_false, run_r]
    · have e1 : decide ((i : Int) < ln sn) = false := by simp [ln]; omega
      simp only [Tree.run, e1, cond_false]
theorem same_self {n : Nat} (c1 c2 c3 c4 : Bool) (g st ep nx : Int) (sh : Sh) (sn : Sn) (h1 : sh.length < n) (h2 : sn.length < n) (h3 : sh.length ≤ 1000) (h4 : sn.length ≤ 1000) : (F_r23_Same n g st ep nx c1 sh c2 sn g st ep nx c3 sh c4 sn).run = some true := by
  unfold F_r23_Same
  have e0 := same_l0 n g st ep nx g st ep nx c1 c2 c3 c4 sn sn (sh := sh) (by omega) n 0 (by omega) (by omega)
  have e1 := same_l2 n g st ep nx g st ep nx c1 c2 c3 c4 sh sh (sn := sn) (by omega) n 0 (by omega) (by omega)
  simp only [Int.natCast_zero, show ((0 : Nat) : Int) = 0 from rfl] at e0 e1
  simp only [Tree.run, decide_true, Bool.not_true, Bool.or_self, cond_false, e0, e1, Option.bind_some, run_r]
theorem few_l0 (n : Nat) (g st ep nx : Int) (c c' : Bool) (sn : Sn) {sh : Sh} : ∀ (k i : Nat), i ≤ 71 → 71 < i + k → (∀ j, j < i → ∀ h : j < sh.length, sh[j].1.length ≤ 100) →
    ∃ d : Bool, (F_w23_few_l0 n k (i : Int) g st ep nx c sh c' sn).run = some (bif d then .inr () else .inl ()) ∧ (d = true → sh.length ≤ 70 → ∀ x ∈ sh, x.1.length ≤ 100)
  | 0, i, h, h2, _ => by omega
  | k + 1, i, h, h2, h3 => by
    unfold F_w23_few_l0
    by_cases hi : i < sh.length ∧ i ≤ 70
    · have e1 : (decide ((i : Int) < ln sh) && decide ((i : Int) ≤ 70)) = true := by
        simp only [Bool.and_eq_true, decide_eq_true_eq, ln]; omega
      have e2 : getI sh (i : Int) = some sh[i] := getI_lt hi.1
      by_cases hl : 100 < sh[i].1.length
      · have e3 : decide ((100 : Int) < ln sh[i].1) = true := by simp [ln]; omega
        exact ⟨false, by simp only [Tree.run, e1, cond_true, e2, e3, Option.bind_some, cond_false], fun h => by cases h⟩
      · have e3 : decide ((100 : Int) < ln sh[i].1) = false := by simp [ln]; omega
        obtain ⟨d, e4, e5⟩ := few_l0 n g st ep nx c c' sn (sh := sh) k (i + 1) (by omega) (by omega) (fun j hj hjl => by
          by_cases hji : j < i
          · exact h3 j hji hjl
          · have : j = i := by omega
            subst this; omega)
        rw [← w64_succ (by omega)] at e4
        refine ⟨d, ?_, e5⟩
        simp only [Tree.run, e1, cond_true, e2, e3, e4, Option.bind_some, cond_false]
        cases d <;> rfl
    · have e1 : (decide ((i : Int) < ln sh) && decide ((i : Int) ≤ 70)) = false := by
        cases hb : (decide ((i : Int) < ln sh) && decide ((i : Int) ≤ 70))
        · rfl
        · simp only [Bool.and_eq_true, decide_eq_true_eq, ln] at hb; omega
      refine ⟨true, by simp only [Tree.run, e1, cond_false, cond_true], fun _ hl x hx => ?_⟩
      obtain ⟨j, hj, rfl⟩ := List.getElem_of_mem hx
      exact h3 j (by omega) hj
theorem few_run {n : Nat} (hn : 80 ≤ n) (g st ep nx : Int) (c c' : Bool) (sh : Sh) (sn : Sn) : ∃ d : Bool, (F_w23_few n g st ep nx c sh c' sn).run = some d ∧ (d = true → sh.length ≤ 70 ∧ sn.length ≤ 70 ∧ ∀ x ∈ sh, x.1.length ≤ 100) := by
  unfold F_w23_few
  obtain ⟨d, e1, e2⟩ := few_l0 n g st ep nx c c' sn (sh := sh) n 0 (by omega) (by omega) (by omega)
  simp only [Int.natCast_zero, show ((0 : Nat) : Int) = 0 from rfl] at e1
  cases d
  · exact ⟨false, by simp only [Tree.run, e1, cond_false, Option.bind_some, run_l], fun h => by cases h⟩
  · refine ⟨decide (ln sh ≤ 70) && decide (ln sn ≤ 70), by simp only [Tree.run, e1, cond_true, Option.bind_some, run_r], fun h => ?_⟩
    simp only [Bool.and_eq_true, decide_eq_true_eq, ln] at h
    exact ⟨by omega, by omega, e2 rfl (by omega)⟩
theorem awake23 (n : Nat) : (F_w23_awake (n + 1000)).run = some true := by kernel_rfl
theorem own23 (n : Nat) {x : List UInt8} (h : x.length ≤ 140737488355328) : (F_w23_own n x).run = some x := by
  unfold F_w23_own
  simp only [Tree.run, own_app h, Option.bind_some]
abbrev MfT : Ty := .rcd (.pair (.sint .i64) (.pair (.sint .i64) (.pair (.sint .i64) (.pair (.sint .i64) (.pair (.list (.rcd (.pair .str (.arr 32 .u8)))) (.list (.rcd (.pair (.sint .i64) (.arr 32 .u8)))))))))
theorem mf_ok {x : MfT.den} (h : MfT.ok x) : (∀ y ∈ x.2.2.2.2.1, y.2.length = 32) ∧ (∀ y ∈ x.2.2.2.2.2, y.2.length = 32) :=
  ⟨fun y hy => (h.2.2.2.2.1.2 y hy).2.1, fun y hy => (h.2.2.2.2.2.2 y hy).2.1⟩
theorem getM_all {s : List UInt8} {g st ep nx : Int} {sh : Sh} {sn : Sn} (h : getM s = .inr (g, st, ep, nx, sh, sn)) : rightM g st ep nx sh sn = true ∧ sh.length ≤ 64 ∧ sn.length ≤ 32 ∧ (∀ x ∈ sh, x.1.length ≤ 32 ∧ x.2.length = 32) ∧ ∀ x ∈ sn, x.2.length = 32 := by
  unfold getM at h
  simp only at h
  split at h
  · cases h
  · split at h
    · rename_i hr
      cases h
      have a1 := shardsM_all (headM s).z.toNat (headM s).s (headM s).e [] (by simp)
      have h2 := headM_len s
      have r7 := scanN_range (shardsM (headM s).z.toNat (headM s).s (headM s).e []).2.1 (shardsM (headM s).z.toNat (headM s).s (headM s).e []).2.2 0 32 (by decide) (by decide)
      have a2 := snapsM_all (scanN (shardsM (headM s).z.toNat (headM s).s (headM s).e []).2.1 (shardsM (headM s).z.toNat (headM s).s (headM s).e []).2.2 0 32).1.toNat (scanN (shardsM (headM s).z.toNat (headM s).s (headM s).e []).2.1 (shardsM (headM s).z.toNat (headM s).s (headM s).e []).2.2 0 32).2.1 (scanN (shardsM (headM s).z.toNat (headM s).s (headM s).e []).2.1 (shardsM (headM s).z.toNat (headM s).s (headM s).e []).2.2 0 32).2.2 [] (by simp)
      exact ⟨hr, by rw [a1.2]; simp; omega, by rw [a2.2]; simp; omega, a1.1, a2.1⟩
    · cases h
theorem texts_run (m : Nat) (b c : Bool) {x : MfT.den} (hx : MfT.ok x) (c' : Bool) (y : List UInt8) : (F_w23_ManifestTexts (m + 1000) x.1 x.2.1 x.2.2.1 x.2.2.2.1 b x.2.2.2.2.1 c x.2.2.2.2.2 c' y).run = some true := by
  obtain ⟨g, st, ep, nx, sh, sn⟩ := x
  obtain ⟨k1, k2⟩ := mf_ok hx
  simp only at k1 k2 ⊢
  generalize hn : m + 1000 = n
  have aw : (F_w23_awake n).run = some true := by rw [← hn]; exact awake23 m
  unfold F_w23_ManifestTexts
  obtain ⟨d, e1, e2⟩ := few_run (n := n) (by omega) g st ep nx b c sh sn
  simp only [Tree.run, e1, Option.bind_some, aw]
  cases hd : (!d || decide ((8000 : Int) < ln y))
  · simp only [Bool.or_eq_false_iff, Bool.not_eq_false', decide_eq_false_iff_not, ln] at hd
    obtain ⟨f1, f2, f3⟩ := e2 hd.1
    have hy : y.length ≤ 140737488355328 := by omega
    have r1 := cright (n := n) (by omega) b c g st ep nx sh sn
    have r2 := rright (n := n) (by omega) b c g st ep nx sh sn fun x hx => by have := f3 x hx; exact ⟨by omega, by omega⟩
    have p1 := cput (n := n) (by omega) b c g st ep nx (sh := sh) (sn := sn) f3 (by omega) (by omega)
    have p2 := rput (n := n) (by omega) b c g st ep nx (sh := sh) (sn := sn) (fun x hx => ⟨f3 x hx, k1 x hx⟩) k2 (by omega) (by omega)
    have g1 := rget (n := n) (by omega) c' hy
    simp only [cond_false, own23 n hy, cget (n := n) (by omega) hy, Option.bind_some]
    cases hg : getM y with
    | inl er =>
      have s1 := same_self (n := n) false false false false 0 0 0 0 [] [] (by simp; omega) (by simp; omega) (by simp) (by simp)
      rw [hg] at g1
      simp only [run_l, Tree.run, g1, r1, r2, p1, p2, s1, aw, Option.bind_some, decide_true, cond_true, beq_self_eq_true]
    | inr v =>
      obtain ⟨g', st', ep', nx', sh', sn'⟩ := v
      have hv := getM_all hg
      have s1 := same_self (n := n) false false false false g' st' ep' nx' sh' sn' (by omega) (by omega) (by omega) (by omega)
      rw [hg] at g1
      simp only [run_r, Tree.run, g1, r1, r2, p1, p2, s1, aw, Option.bind_some, decide_true, cond_true, beq_self_eq_true]
  · simp only [cond_true]
end Go.Proofs.Ytdlbmjbbnplpjaa
