/- PackSizes: how many bytes the pack of blobs of any sizes has is what the document says, or why there is none. -/
import Derived.Test.YtcojhmllnhkbnaaDoorLP
import Derived.Test.YtcojhmllnhkbnaaDoorAW
import Derived.Test.YtcojhmllnhkbnaaDoorNz
set_option linter.unusedVariables false
set_option linter.unusedSimpArgs false
set_option maxRecDepth 100000
namespace Go.Proofs.YtcojhmllnhkbnaaDoor
open Hyp
def itZ (z : Int) : It := (1, (zs 32, (0, z)))
theorem zs32 : (zs 32 : List UInt8).length = 32 := rfl
theorem psize_l0 (n : Nat) (b0 : Bool) (l : List Int) (z : Int) (hz : z = l.length) (hl : l.length ≤ 100) : ∀ (k i : Nat) (acc : List It), i ≤ l.length → l.length < i + k → acc.length ≤ i →
    (F_pack_Size_l0 n k b0 l z (i : Int) acc).run = some (if i = l.length then .inl () else .inr (acc ++ (l.drop i).map itZ))
  | 0, i, acc, h1, h2, _ => by omega
  | k + 1, i, acc, h1, h2, h3 => by
    unfold F_pack_Size_l0
    by_cases hi : i = l.length
    · have e1 : decide ((i : Int) < z) = false := by simp; omega
      simp only [Tree.run, e1, cond_false, if_pos hi]
    · have hlt : i < l.length := by omega
      have e1 : decide ((i : Int) < z) = true := by simp; omega
      have e2 : getI l (i : Int) = some l[i] := getI_lt hlt
      have e4 : w64 ((i : Int) + 1) = ((i + 1 : Nat) : Int) := w64_succ (by omega)
      have e5 : appI 2513169434916 acc (List.set ([((0 : Int), ((zs 32), ((0 : Int), (0 : Int))))] : List (Int × ((List UInt8) × (Int × Int)))) 0 ((1 : Int), ((zs 32), ((0 : Int), l[i])))) = some (acc ++ [itZ l[i]]) := appI_le (by simp; omega)
      have e6 := psize_l0 n b0 l z hz hl k (i + 1) (acc ++ [itZ l[i]]) (by omega) (by omega) (by simp; omega)
      have hd : l.drop i = l[i] :: l.drop (i + 1) := List.drop_eq_getElem_cons hlt
      simp only [Tree.run, e1, cond_true, e2, e4, e5, e6, Option.bind_some, if_neg hi]
      by_cases h9 : i + 1 = l.length
      · have hn : l.drop (i + 1) = [] := List.drop_eq_nil_of_le (by omega)
        simp only [if_pos h9, run_l, Tree.run, hd, hn, List.map_cons, List.map_nil]
      · simp only [if_neg h9, run_r, Tree.run, hd, List.map_cons, List.append_assoc, List.singleton_append]
theorem rsize_l0 (n : Nat) (b0 : Bool) (l : List Int) (hl : l.length ≤ 100) : ∀ (k i : Nat) (acc : List It), i ≤ l.length → l.length < i + k → acc.length ≤ i →
    (F_r19_Size_l0 n k b0 l (i : Int) acc).run = some (if i = l.length then .inl () else .inr (acc ++ (l.drop i).map itZ))
  | 0, i, acc, h1, h2, _ => by omega
  | k + 1, i, acc, h1, h2, h3 => by
    unfold F_r19_Size_l0
    by_cases hi : i = l.length
    · have e1 : decide ((i : Int) < (ln l)) = false := by simp; omega
      simp only [Tree.run, e1, cond_false, if_pos hi]
    · have hlt : i < l.length := by omega
      have e1 : decide ((i : Int) < (ln l)) = true := by simp; omega
      have e2 : getI l (i : Int) = some l[i] := getI_lt hlt
      have e4 : w64 ((i : Int) + 1) = ((i + 1 : Nat) : Int) := w64_succ (by omega)
      have e5 : appI 2513169434916 acc (List.set ([((0 : Int), ((zs 32), ((0 : Int), (0 : Int))))] : List (Int × ((List UInt8) × (Int × Int)))) 0 ((1 : Int), ((zs 32), ((0 : Int), l[i])))) = some (acc ++ [itZ l[i]]) := appI_le (by simp; omega)
      have e6 := rsize_l0 n b0 l hl k (i + 1) (acc ++ [itZ l[i]]) (by omega) (by omega) (by simp; omega)
      have hd : l.drop i = l[i] :: l.drop (i + 1) := List.drop_eq_getElem_cons hlt
      simp only [Tree.run, e1, cond_true, e2, e4, e5, e6, Option.bind_some, if_neg hi]
      by_cases h9 : i + 1 = l.length
      · have hn : l.drop (i + 1) = [] := List.drop_eq_nil_of_le (by omega)
        simp only [if_pos h9, run_l, Tree.run, hd, hn, List.map_cons, List.map_nil]
      · simp only [if_neg h9, run_r, Tree.run, hd, List.map_cons, List.append_assoc, List.singleton_append]
theorem psize {n : Nat} (hn : 600 < n) (b0 : Bool) (l : List Int) (hl : l.length ≤ 100) : (F_pack_Size n b0 l).run = some (sizS (l.map itZ), errS (l.map itZ)) := by
  unfold F_pack_Size
  have e : (F_pack_Size_l0 n n b0 l (ln l) (0 : Int) []).run = some (if 0 = l.length then .inl () else .inr ([] ++ (l.drop 0).map itZ)) := psize_l0 n b0 l (ln l) rfl hl n 0 [] (by omega) (by omega) (by simp)
  by_cases h0 : 0 = l.length
  · have hn : l = [] := List.length_eq_zero_iff.1 h0.symm
    subst hn
    obtain ⟨l', h1, _⟩ := pack_laid (n := n) (by omega) []
    simp only [Tree.run, e, if_pos h0, Option.bind_some, run_l, h1, List.map_nil]
  · obtain ⟨l', h1, _⟩ := pack_laid (n := n) (by omega) (l.map itZ)
    simp only [Tree.run, e, if_neg h0, Option.bind_some, run_r, List.nil_append, List.drop_zero, h1]
theorem rsize {n : Nat} (hn : 600 < n) (hn2 : n ≤ 4611686018427387904) (b0 : Bool) (l : List Int) (hl : l.length ≤ 100) : (F_r19_Size n b0 l).run = some (sizS (l.map itZ), errS (l.map itZ)) := by
  unfold F_r19_Size
  have e : (F_r19_Size_l0 n n b0 l (0 : Int) []).run = some (if 0 = l.length then .inl () else .inr ([] ++ (l.drop 0).map itZ)) := rsize_l0 n b0 l hl n 0 [] (by omega) (by omega) (by simp)
  have h32 : ∀ x ∈ l.map itZ, x.2.1.length = 32 := by
    intro x hx
    obtain ⟨z, _, rfl⟩ := List.mem_map.1 hx
    rfl
  by_cases h0 : 0 = l.length
  · have hn : l = [] := List.length_eq_zero_iff.1 h0.symm
    subst hn
    have h1 := rpack_laid (n := n) hn hn2 false [] (by simp)
    simp only [Tree.run, e, if_pos h0, Option.bind_some, run_l, h1, List.map_nil]
  · have h1 := rpack_laid (n := n) hn hn2 false (l.map itZ) h32
    simp only [Tree.run, e, if_neg h0, Option.bind_some, run_r, List.nil_append, List.drop_zero, h1]
theorem same_l0 (n : Nat) (b0 : Bool) (l : List Int) (z : Int) (hz : z = l.length) (hl : l.length ≤ 100) : ∀ (k i : Nat), i ≤ l.length → l.length < i + k → (F_w19_PackSizes_l0 n k b0 l z (i : Int) l).run = some (.inr ())
  | 0, i, h1, h2 => by omega
  | k + 1, i, h1, h2 => by
    unfold F_w19_PackSizes_l0
    by_cases hi : i < l.length
    · have e1 : decide ((i : Int) < z) = true := by simp; omega
      have e2 : getI l (i : Int) = some l[i] := getI_lt hi
      have e3 : inI l.length (i : Int) = some i := inI_nat hi
      have e4 : w64 ((i : Int) + 1) = ((i + 1 : Nat) : Int) := w64_succ (by omega)
      have e5 : gt l (0 + i) = some l[i] := by rw [Nat.zero_add]; exact gt_lt hi
      have e6 := same_l0 n b0 l z hz hl k (i + 1) (by omega) (by omega)
      simp only [Tree.run, e1, cond_true, e2, e3, e4, e5, e6, Option.bind_some, run_r]
      simp [Tree.run]
    · have e1 : decide ((i : Int) < z) = false := by simp; omega
      simp only [Tree.run, e1, cond_false]
theorem sizes_law (x0 : List Int) : (F_w19_PackSizes (1 + 600) false x0).run = some true := by
  unfold F_w19_PackSizes
  by_cases hc : 100 < x0.length
  · have e1 : decide ((100 : Int) < (ln x0)) = true := by rw [show ln x0 = ((x0.length : Nat) : Int) from rfl]; simp; omega
    simp only [Tree.run, e1, cond_true, awake19, Option.bind_some]
  · have e1 : decide ((100 : Int) < (ln x0)) = false := by rw [show ln x0 = ((x0.length : Nat) : Int) from rfl]; simp; omega
    have e2 : appI 17592186044416 ([] : List Int) x0 = some x0 := appI_le (by simp; omega)
    have e3 := psize (n := 1 + 600) (by omega) false x0 (by omega)
    have e4 := rsize (n := 1 + 600) (by omega) (by omega) false x0 (by omega)
    have e5 : (F_w19_PackSizes_l0 (1 + 600) (1 + 600) false x0 (ln x0) (0 : Int) x0).run = some (.inr ()) := same_l0 (1 + 600) false x0 (ln x0) rfl (by omega) (1 + 600) 0 (by omega) (by omega)
    simp only [Tree.run, e1, cond_false, e2, e3, e4, e5, Option.bind_some, run_r, decide_true, cond_true, awake19]
end Go.Proofs.YtcojhmllnhkbnaaDoor
