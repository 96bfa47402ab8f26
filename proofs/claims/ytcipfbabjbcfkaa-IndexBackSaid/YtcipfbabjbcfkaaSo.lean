/- The order of what is known; slices.SortFunc by it. -/
import Derived.Test.YtcipfbabjbcfkaaOR
import Derived.Test.YtcipfbabjbcfkaaSQ
set_option linter.unusedVariables false
set_option linter.unusedSimpArgs false
set_option maxRecDepth 100000
set_option maxHeartbeats 4000000
namespace Hyp
open Go Go.Proofs Go.Shelf
abbrev TKn : Ty := .rcd (.pair (.sint .i64) (.pair (.arr 32 .u8) (.rcd (.pair .str (.pair (.sint .i64) (.sint .i64))))))
abbrev KnD := Int × List UInt8 × List UInt8 × Int × Int
/-- Kind first, then the id. -/
def ordK (a b : KnD) : Int := if a.1 = b.1 then Lib.compareBytes a.2.1 b.2.1 else a.1 - b.1
/-- Kinds are small; no two have one name. -/
def goodK : List KnD → Bool
  | [] => true
  | a :: l => decide (0 ≤ a.1 ∧ a.1 ≤ 255) && (l.all fun b => !decide (a.1 = b.1 ∧ a.2.1 = b.2.1)) && goodK l
theorem cb_self : ∀ a : List UInt8, Lib.compareBytes a a = 0
  | [] => rfl
  | x :: a => by
    unfold Lib.compareBytes
    rw [if_neg (UInt8.lt_irrefl x), if_neg (UInt8.lt_irrefl x)]
    exact cb_self a
theorem cb_zero : ∀ {a b : List UInt8}, Lib.compareBytes a b = 0 → a = b
  | [], [], _ => rfl
  | [], _ :: _, h => by simp [Lib.compareBytes] at h
  | _ :: _, [], h => by simp [Lib.compareBytes] at h
  | x :: a, y :: b, h => by
    unfold Lib.compareBytes at h
    split at h
    · cases h
    · split at h
      · cases h
      · rename_i h1 h2
        have : x = y := by
          rw [UInt8.lt_iff_toNat_lt] at h1 h2
          exact UInt8.toNat_inj.1 (by omega)
        rw [this, cb_zero h]
theorem cb_neg : ∀ {a b : List UInt8}, Lib.compareBytes b a = - Lib.compareBytes a b
  | [], [] => rfl
  | [], _ :: _ => rfl
  | _ :: _, [] => rfl
  | x :: a, y :: b => by
    unfold Lib.compareBytes
    by_cases h1 : x < y
    · have h2 : ¬ y < x := by rw [UInt8.lt_iff_toNat_lt] at h1 ⊢; omega
      simp [h1, h2]
    · by_cases h2 : y < x
      · simp [h1, h2]
      · simp [h1, h2]; exact cb_neg
theorem cb_trans : ∀ {a b c : List UInt8}, Lib.compareBytes a b < 0 → Lib.compareBytes b c < 0 → Lib.compareBytes a c < 0
  | [], [], _, h, _ => by simp [Lib.compareBytes] at h
  | [], _ :: _, [], _, h => by simp [Lib.compareBytes] at h
  | [], _ :: _, _ :: _, _, _ => by simp [Lib.compareBytes]
  | _ :: _, [], _, h, _ => by simp [Lib.compareBytes] at h
  | _ :: _, _ :: _, [], _, h => by simp [Lib.compareBytes] at h
  | x :: a, y :: b, z :: c, h1, h2 => by
    unfold Lib.compareBytes at h1 h2 ⊢
    simp only [UInt8.lt_iff_toNat_lt] at h1 h2 ⊢
    split at h1
    · split at h2
      · rw [if_pos (by omega)]; omega
      · split at h2
        · omega
        · rw [if_pos (by omega)]; omega
    · split at h1
      · omega
      · split at h2
        · rw [if_pos (by omega)]; omega
        · split at h2
          · omega
          · rw [if_neg (by omega), if_neg (by omega)]
            exact cb_trans h1 h2
theorem ordK_trans {a b c : KnD} (h1 : ordK a b < 0) (h2 : ordK b c < 0) : ordK a c < 0 := by
  unfold ordK at *
  split at h1
  · split at h2
    · rw [if_pos (by omega)]; exact cb_trans h1 h2
    · rw [if_neg (by omega)]; omega
  · split at h2
    · rw [if_neg (by omega)]; omega
    · rw [if_neg (by omega)]; omega
theorem ordK_neg (a b : KnD) : ordK b a = - ordK a b := by
  unfold ordK
  by_cases h : a.1 = b.1
  · rw [if_pos h, if_pos h.symm]; exact cb_neg
  · rw [if_neg h, if_neg (fun e => h e.symm)]; omega
theorem ordK_zero {a b : KnD} (h : ordK a b = 0) : a.1 = b.1 ∧ a.2.1 = b.2.1 := by
  unfold ordK at h
  split at h
  · exact ⟨‹_›, cb_zero h⟩
  · omega
theorem goodK_mem : ∀ {l : List KnD}, goodK l = true → ∀ x ∈ l, 0 ≤ x.1 ∧ x.1 ≤ 255
  | [], _, _, h => by cases h
  | a :: l, h, x, hx => by
    simp only [goodK, Bool.and_eq_true, decide_eq_true_eq] at h
    rcases List.mem_cons.1 hx with rfl | hx
    · exact h.1.1
    · exact goodK_mem h.2 x hx
theorem goodK_eq : ∀ {l : List KnD}, goodK l = true → ∀ x ∈ l, ∀ y ∈ l, x.1 = y.1 → x.2.1 = y.2.1 → x = y
  | [], _, _, h, _, _, _, _ => by cases h
  | a :: l, h, x, hx, y, hy, h1, h2 => by
    simp only [goodK, Bool.and_eq_true, List.all_eq_true, Bool.not_eq_true', decide_eq_false_iff_not] at h
    rcases List.mem_cons.1 hx with ex | hx2
    · rcases List.mem_cons.1 hy with ey | hy2
      · rw [ex, ey]
      · subst ex; exact absurd ⟨h1, h2⟩ (h.1.2 y hy2)
    · rcases List.mem_cons.1 hy with ey | hy2
      · subst ey; exact absurd ⟨h1.symm, h2.symm⟩ (h.1.2 x hx2)
      · exact goodK_eq h.2 x hx2 y hy2 h1 h2
theorem ordK_ok : OrdOK goodK ordK where
  irrefl xs _ x _ := by unfold ordK; rw [if_pos rfl, cb_self]; omega
  trans xs _ x _ y _ z _ h1 h2 := ordK_trans h1 h2
  ntrans xs hg x hx y hy z hz h1 h2 := by
    intro h3
    have h4 := ordK_neg x z
    have h5 := ordK_neg x y
    have h6 := ordK_neg y z
    rcases Int.lt_or_eq_of_le (show ordK y x ≤ 0 by omega) with h7 | h7
    · exact h2 (by have := ordK_trans h7 h3; omega)
    · obtain ⟨e1, e2⟩ := ordK_zero h7
      have : y = x := goodK_eq hg y hy x hx e1 e2
      subst this
      exact h2 h3
  total xs hg x hx y hy h1 h2 := by
    have h3 := ordK_neg x y
    obtain ⟨e1, e2⟩ := ordK_zero (a := x) (b := y) (by omega)
    exact goodK_eq hg x hx y hy e1 e2
def S_sortKn : Summ := S_sortF TKn goodK ordK 29
theorem qorder_run {n : Nat} {x y : KnD} (hx : 0 ≤ x.1 ∧ x.1 ≤ 255) (hy : 0 ≤ y.1 ∧ y.1 ≤ 255) (lx : x.2.1.length = 32) (ly : y.2.1.length = 32) : (Fq_index_order n x.1 x.2.1 y.1 y.2.1).run = some (ordK x y) := by
  unfold Fq_index_order Fq_bytes_Compare ordK
  have w64_sub : w64 (x.1 - y.1) = x.1 - y.1 := w64_id (by omega) (by omega)
  by_cases h : x.1 = y.1
  · simp only [h, decide_true, Bool.not_true, Tree.run, cond_false, Option.bind_some, if_true]
    rw [List.drop_zero, List.drop_zero, List.take_of_length_le (by omega), List.take_of_length_le (by omega)]
  · simp only [h, decide_false, Bool.not_false, Tree.run, cond_true, if_false]
    exact congrArg some w64_sub
theorem ok_sortKn : SoundF Try.prog 28 S_sortKn :=
  ok_sortF (P := Try.prog) (ρ := ρQ) layQ (t := TKn) (S := Sq_index_order 0) (avs := fun x y => [explode TKn x, explode TKn y]) (by kernel_rfl) (by decide) (fun w => by kernel_rfl) (fun w => by kernel_rfl) (enters_of Try.func29 (by kernel_rfl) rfl) ordK_ok (okq_index_order 0)
    (fun Z w x y hx hy => ⟨.of ⟨_, rfl, flds_ok _ hx⟩, .of ⟨_, rfl, flds_ok _ hy⟩, trivial⟩)
    (fun xs hg x hx y hy rx ry => by
      have lx : x.2.1.length = 32 := by obtain ⟨_, _, _, _, _, _, _, _, _, h, _⟩ := rx; exact h.1
      have ly : y.2.1.length = 32 := by obtain ⟨_, _, _, _, _, _, _, _, _, h, _⟩ := ry; exact h.1
      refine law_ofR (t := Fq_index_order 0 x.1 x.2.1 y.1 y.2.1) (f := fun r => ((.val (.sint .i64) r), [], 0)) (qorder_run (goodK_mem hg x hx) (goodK_mem hg y hy) lx ly) (by kernel_rfl) ⟨rfl, rfl⟩)
theorem ok_sortKnC : CallOK Try.prog 28 S_sortKn := ok_sortKn.callOK (fn := Try.f28) Try.func28 (by kernel_rfl)
end Hyp
