/- The laws of blob: ids, what is sealed is checked, what is opened has its form. -/
import Derived.Test.YtcojhmllnhkbnaaDoorBL
import Derived.Test.YtcojhmllnhkbnaaDoorKn
import Derived.Test.YtcojhmllnhkbnaaDoorKw
set_option linter.unusedVariables false
set_option linter.unusedSimpArgs false
set_option maxRecDepth 100000
namespace Hyp
open Go Go.Proofs
theorem bseal_17 {n : Nat} (hn : 10000 ≤ n) {key nc id : List UInt8} {k : Int} (hk : key.length = 32) (hc : nc.length = 12) (hi : id.length = 32) :
    (F_blob_Seal_1_7 n 0 32 0 12 key nc k id).run = some (0, nc ++ sealS key nc (boundB k id) []) := by
  have e1 : List.take 32 (List.drop 0 key) = key := by rw [List.drop_zero]; exact List.take_of_length_le (by omega)
  have e2 : List.take 12 (List.drop 0 nc) = nc := by rw [List.drop_zero]; exact List.take_of_length_le (by omega)
  have e3 := seal_run (n := n) (by omega) (b0 := false) (b1 := false) (other := boundB k id) (text := []) hk hc (by simp [boundB]; omega) (by simp) (by simp [boundB]; omega) (by simp; omega)
  have a1 : appI 140737488355328 ([] : List UInt8) nc = some nc := appI_le (by simp; omega)
  have a2 : appI 140737488355328 nc (sealS key nc (boundB k id) []) = some (nc ++ sealS key nc (boundB k id) []) := appI_le (by rw [sealS_len]; simp; omega)
  rw [F_blob_Seal_1_7, e1, e2]
  exact rG (bound_run hi) (rG e3 (rE rfl (rG a1 (rG a2 rfl))))
abbrev ring1 : Rg := [(1, zs 32)]
theorem ring1_ok : okR ring1 := ⟨by intro p hp; simp at hp; subst hp; simp, by simp⟩
theorem look1 : lookS ring1 1 = some (zs 32) := by simp [lookS]
theorem rk1 (p : List UInt8) : rkS ring1 p 1 = .inr (keyL (zs 32) p 1) := by
  unfold rkS
  rw [if_neg (by omega), look1]; rfl
theorem sealv1_run {n : Nat} (hn : 10000 ≤ n) : (F_blob_Seal_v1 n 1 1 (zs 32) 1 ring1).run = some (nonceS 1 1 ++ sealS (keyL (zs 32) sealP 1) (nonceS 1 1) (boundB 1 (zs 32)) [], 0) := by
  have e1 := ringkey_run (n := n) (by omega) ring1_ok (p := sealP) (by decide) (right_seal 1)
  rw [rk1] at e1
  have e2 := nonce_run (n := n) (by omega) (e := 1) (m := 1) (by omega) (by omega)
  have e3 := bseal_17 hn (key := keyL (zs 32) sealP 1) (nc := nonceS 1 1) (id := zs 32) (k := 1) (keyL_len _ _ _) (nonceS_len _ _) (by simp)
  have hw : (F_blob_with_1 n 1 1 ring1 1 (zs 32)).run = some (0, nonceS 1 1 ++ sealS (keyL (zs 32) sealP 1) (nonceS 1 1) (boundB 1 (zs 32)) []) := by
    rw [F_blob_with_1]
    refine rS e1 ?_
    rw [run_r]
    refine rE rfl (rS e2 ?_)
    rw [run_r]
    exact rE rfl (rS e3 rfl)
  rw [F_blob_Seal_v1]
  exact rS kind_run (rE rfl (rE rfl (rS hw rfl)))
theorem seal1 : sealB ring1 1 1 (zs 32) 1 [] = (0, nonceS 1 1 ++ sealS (keyL (zs 32) sealP 1) (nonceS 1 1) (boundB 1 (zs 32)) []) := by
  unfold sealB
  rw [if_neg (by omega), if_neg (by simp), rk1]; rfl
theorem rings1_run (m : Nat) : (F_w18_rings (m + 600) ([((1 : Int), (zs 32))] : List (Int × (List UInt8)))).run = some (false, ring1, ring1) := by kernel_rfl
theorem awake18_facts {n : Nat} (hn : 10000 ≤ n) : ∃ B, (F_blob_Seal_v1 n 1 1 (zs 32) 1 ring1).run = some (B, 0) ∧ (F_blob_Open n 1 (zs 32) B ring1).run = some (.inr ([], 0)) ∧ (F_blob_Check n 1 (zs 32) B ring1).run = some (.inl 23) ∧ B.length = 28 ∧ getI B (11 : Int) = some 1 := by
  have ho := seal_openB seal1
  have hl := sealB_len seal1
  have e1 := bOpen_run hn ring1_ok (k := 1) (id := zs 32) (b := (nonceS 1 1 ++ sealS (keyL (zs 32) sealP 1) (nonceS 1 1) (boundB 1 (zs 32)) [])) (by simp) (by rw [hl.1]; simp)
  rw [ho] at e1
  have e2 := bCheck_run hn ring1_ok (k := 1) (id := zs 32) (b := (nonceS 1 1 ++ sealS (keyL (zs 32) sealP 1) (nonceS 1 1) (boundB 1 (zs 32)) [])) (by simp) (by rw [hl.1]; simp) ho (by simp)
  have hid : idB ring1 ((Int.toNat 1 : Nat) : Int) 1 [] = (idS (keyL (zs 32) nameP 1) 1 [], 0) := by
    unfold idB
    rw [if_neg (by omega), if_neg (by simp), show ((Int.toNat 1 : Nat) : Int) = 1 from rfl, rk1]; rfl
  rw [hid, if_neg (by intro h; exact idN_ne h.2)] at e2
  refine ⟨_, sealv1_run hn, e1, e2, by rw [hl.1]; rfl, ?_⟩
  refine getI_nat (j := 11) ?_
  rw [List.getElem?_append_left (by rw [nonceS_len]; omega)]
  rfl
theorem awake18 {n : Nat} (hn : 10000 ≤ n) : (F_w18_awake n).run = some true := by
  obtain ⟨B, h1, h2, h3, h4, h5⟩ := awake18_facts hn
  obtain ⟨m, rfl⟩ : ∃ m, n = m + 600 := ⟨n - 600, by omega⟩
  rw [F_w18_awake]
  refine rS (rings1_run m) (rS h1 (rS h2 ?_))
  rw [run_r]
  refine rS h3 ?_
  rw [run_l]
  exact rI rfl (rI (decide_eq_true (lnEq h4)) (rG h5 rfl))
theorem few_run {n : Nat} {x : List UInt8} : (F_w18_Ask_few n x).run = some (decide (x.length ≤ 600 ∨ (8192 < x.length ∧ x.length ≤ 8292))) := by
  unfold F_w18_Ask_few
  simp only [Tree.run]
  congr 1
  rw [Bool.eq_iff_iff]
  simp only [Bool.or_eq_true, Bool.and_eq_true, decide_eq_true_eq]
  unfold ln; omega
theorem size_max {n : Nat} {x : Int} : (F_blob_Size n (minI x (1099511627776 : Int))).run = some (w64 ((maxI (minI x (1099511627776 : Int)) (0 : Int)) + (28 : Int))) := by
  have h1 : minI x 1099511627776 ≤ 1099511627776 := by unfold minI; split <;> omega
  generalize minI x 1099511627776 = y at h1
  have h2 : 0 ≤ maxI y 0 ∧ maxI y 0 ≤ 1099511627776 := by unfold maxI; split <;> omega
  unfold F_blob_Size F_box_Size
  simp only [Tree.run, Option.bind_some]
  generalize maxI y 0 = z at h2
  rw [w64_id (n := z + 16) (by omega) (by omega), show (12 : Int) + (z + 16) = z + 28 by omega]
theorem back_law {n : Nat} (hn : 10000 ≤ n) {f : Bool} {l : List (Int × List UInt8)} (hl : ∀ p ∈ l, p.2.length ≤ 140737488355328) {e k m : Int} {x : List UInt8} {y : Int} : (F_w18_BlobBack n f l e k m x y).run = some true := by
  rw [F_w18_BlobBack]
  refine rS few_run ?_
  by_cases hx : x.length ≤ 600 ∨ (8192 < x.length ∧ x.length ≤ 8292)
  · refine rE (by simp only [decide_eq_true hx, Bool.not_true]) ?_
    obtain ⟨b, hr⟩ := rings_run (n := n) (f := f) hl (by omega)
    have hok := ring10_ok l
    have hrl := ring10_len l
    generalize ringF [] (l.take 10) = R at hr hok hrl
    have e1 := bID_run hn hok (e := e) (k := k) (text := x) (by omega)
    have hil : (idB R e k x).1.length = 32 := by
      unfold idB
      split
      · simp
      · split
        · simp
        · split
          · simp
          · exact idS_len _ _ _
    have e2 := bseal_run hn hok (e := e) (k := k) (m := m) (id := (idB R e k x).1) (text := x) hil (by omega)
    refine rS hr (rG (own_run (by omega)) (rG e1 (rG (own_run (by omega)) (rG e2 ?_))))
    by_cases hs : (sealB R e k (idB R e k x).1 m x).1 = 0
    ·
      have hsB : sealB R e k (idB R e k x).1 m x = (0, (sealB R e k (idB R e k x).1 m x).2) := by rw [← hs]
      have hlen := sealB_len hsB
      have ho := seal_openB hsB
      have hi0 : (idB R e k x).2 = 0 ∧ ((e.toNat : Nat) : Int) = e := by
        unfold sealB at hsB
        split at hsB
        · cases hsB
        rename_i h1
        split at hsB
        · cases hsB
        rename_i h2
        split at hsB
        · rename_i er hk
          have := rkS_ne hk
          simp only [Prod.mk.injEq] at hsB
          exact absurd hsB.1 this
        · rename_i key hk
          unfold rkS at hk
          split at hk
          · cases hk
          rename_i h3
          split at hk
          · cases hk
          rename_i m0 hl0
          refine ⟨?_, by omega⟩
          unfold idB
          rw [if_neg (by omega), if_neg h2]
          unfold rkS
          rw [if_neg h3, hl0]
      have e3 := bCheck_run hn hok (k := k) (id := (idB R e k x).1) (b := (sealB R e k (idB R e k x).1 m x).2) hil (by omega) ho hlen.2
      rw [hi0.2, if_pos ⟨hi0.1, rfl⟩] at e3
      have hz := bsize_run (n := n) (m := x.length) (by omega)
      refine rE ?_ (rG (own_run (by omega)) (rG e3 ?_))
      · rw [hs, hi0.1]; rfl
      · rw [run_r]
        refine rI rfl (rI (decide_eq_true rfl) (rS hz (rI (decide_eq_true ?_) (rS size_max (rI (decide_eq_true rfl) (rS (awake18 hn) rfl))))))
        unfold ln; omega
    · have hb : (sealB R e k (idB R e k x).1 m x).2 = [] := by
        unfold sealB at hs ⊢
        split
        · rfl
        rename_i h1
        rw [if_neg h1] at hs
        split
        · rfl
        rename_i h2
        rw [if_neg h2] at hs
        split
        · rfl
        · rename_i key hk
          rw [hk] at hs
          exact absurd rfl hs
      refine rI ?_ (rI ?_ (rS size_max (rI (decide_eq_true rfl) (rS (awake18 hn) rfl))))
      · rw [decide_eq_false hs, Bool.not_false, Bool.or_true]
      · rw [hb]; rfl
  · exact rI (by simp only [decide_eq_false hx, Bool.not_false]) (rS (awake18 hn) rfl)
theorem form_law {n : Nat} (hn : 10000 ≤ n) {f : Bool} {l : List (Int × List UInt8)} (hl : ∀ p ∈ l, p.2.length ≤ 140737488355328) {k : Int} {id : List UInt8} (hi : id.length = 32) {b : List UInt8} : (F_w18_BlobForm n f l k id b).run = some true := by
  rw [F_w18_BlobForm]
  by_cases h7 : 700 < b.length
  · exact rI (decide_eq_true (by unfold ln; omega)) (rS (awake18 hn) rfl)
  · refine rE (decide_eq_false (by unfold ln; omega)) ?_
    obtain ⟨g, hr⟩ := rings_run (n := n) (f := f) hl (by omega)
    have hok := ring10_ok l
    generalize ringF [] (l.take 10) = R at hr hok
    have e1 := bOpen_run hn hok (k := k) (id := id) (b := b) hi (by omega)
    refine rS hr (rG (own_run (by omega)) (rG e1 ?_))
    cases ho : openB R k id b with
    | inl er =>
      have := openB_ne ho
      simp only [run_l]
      exact rI (by simp [this]) (rI rfl (rS (awake18 hn) rfl))
    | inr p =>
      obtain ⟨t, e⟩ := p
      simp only [run_r]
      have h28 : 28 ≤ b.length := by
        unfold openB at ho
        split at ho
        · cases ho
        · split at ho
          · cases ho
          · omega
      have hrd := rnread_run (n := n) (by omega) (b := b.take 12) (by simp; omega)
      have s1 : subI b (0 : Int) (12 : Int) = some (b.take 12) := by
        have := subI_nat (l := b) (a := 0) (b := 12) (by omega) (by omega)
        rw [List.drop_zero] at this
        exact this
      have hread : readS (b.take 12) = ((be ((b.take 12).take 4) : Int), (be ((b.take 12).drop 4) : Int), 0) := by
        unfold readS
        rw [if_neg]
        intro h4
        unfold openB at ho
        split at ho
        · cases ho
        · split at ho
          · cases ho
          · split at ho
            · cases ho
            · first | cases ho | (rw [if_pos h4] at ho; cases ho)
      rw [hread] at hrd
      refine rE rfl (rE (decide_eq_false (by unfold ln; omega)) (rG s1 (rS hrd (rE rfl ?_))))
      by_cases h0 : be ((b.take 12).drop 4) = 0
      · exact rI (decide_eq_true (by simp only [h0]; rfl)) (rS (awake18 hn) rfl)
      · obtain ⟨q1, q2, q3, q4, q5, q6⟩ := openB_seal hok ho h0
        have e2 := bseal_run hn hok (e := (be ((b.take 12).take 4) : Int)) (k := k) (m := (be ((b.take 12).drop 4) : Int)) (id := id) (text := t) hi (by have := (sealB_len q1).2; omega)
        rw [q2] at q1
        rw [q1] at e2
        exact rE (decide_eq_false (by simp only; omega)) (rS e2 (rI rfl (rI (decide_eq_true rfl) (rS (awake18 hn) rfl))))
end Hyp
