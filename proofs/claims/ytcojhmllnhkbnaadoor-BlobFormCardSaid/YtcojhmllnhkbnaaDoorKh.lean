/- The box, the program's and the document's; keys by labels, nonces. -/
import Derived.Test.YtcojhmllnhkbnaaDoorPA
import Derived.Test.YtcojhmllnhkbnaaDoorKd
import Derived.Test.YtcojhmllnhkbnaaDoorKg
set_option linter.unusedVariables false
set_option linter.unusedSimpArgs false
set_option maxRecDepth 100000
namespace Hyp
open Go Go.Proofs
def fill16 (b : List UInt8) : List UInt8 := b ++ List.replicate ((16 - b.length % 16) % 16) 0
theorem fill16_len (b : List UInt8) : (fill16 b).length = 16 * ((b.length + 15) / 16) := by
  unfold fill16
  rw [List.length_append, List.length_replicate]; omega
def boundS (other mx : List UInt8) : List UInt8 := fill16 other ++ fill16 mx ++ leN 8 other.length ++ leN 8 mx.length
theorem boundS_len (other mx : List UInt8) : (boundS other mx).length = 16 * ((other.length + 15) / 16 + (mx.length + 15) / 16 + 1) := by
  unfold boundS
  simp only [List.length_append, fill16_len, leN_len]; omega
def tagS (key nonce other mx : List UInt8) : List UInt8 := polyS ((chaB (gridS key nonce 0)).take 32) (boundS other mx)
theorem tagS_len (key nonce other mx : List UInt8) : (tagS key nonce other mx).length = 16 := polyS_len _ _
def sealS (key nonce other text : List UInt8) : List UInt8 := mixP key nonce 1 0 text ++ tagS key nonce other (mixP key nonce 1 0 text)
theorem sealS_len (key nonce other text : List UInt8) : (sealS key nonce other text).length = text.length + 16 := by
  rw [sealS, List.length_append, mixP_len, tagS_len]
def openS (key nonce other b : List UInt8) : Option (List UInt8) :=
  if tagS key nonce other (b.take (b.length - 16)) = b.drop (b.length - 16) then some (mixP key nonce 1 0 (b.take (b.length - 16))) else none
theorem open_seal (key nonce other text : List UInt8) : openS key nonce other (sealS key nonce other text) = some text := by
  have h1 : (sealS key nonce other text).take ((sealS key nonce other text).length - 16) = mixP key nonce 1 0 text := by
    rw [sealS_len, Nat.add_sub_cancel, sealS, List.take_left' (mixP_len _ _)]
  have h2 : (sealS key nonce other text).drop ((sealS key nonce other text).length - 16) = tagS key nonce other (mixP key nonce 1 0 text) := by
    rw [sealS_len, Nat.add_sub_cancel, sealS, List.drop_left' (mixP_len _ _)]
  unfold openS
  rw [h1, h2, if_pos rfl, mixP_twice]
theorem seal_open {key nonce other b text : List UInt8} (hb : 16 ≤ b.length) (h : openS key nonce other b = some text) : sealS key nonce other text = b := by
  unfold openS at h
  split at h
  · rename_i ht
    cases h
    rw [sealS, mixP_twice, ht, List.take_append_drop]
  · cases h
theorem mkI_nat {N m : Nat} (h : m ≤ N) : mkI N (m : Int) (m : Int) = some m := by
  unfold mkI; rw [if_pos (by omega), Int.toNat_natCast]
theorem fill_run {n : Nat} {b : List UInt8} (hb : b.length ≤ 1000000) : (F_word_Fill n b (16 : Int)).run = some (0, fill16 b) := by
  have e0 : ((decide ((16 : Int) < (1 : Int))) || (decide ((4096 : Int) < (16 : Int)))) = false := rfl
  have e1 : nz (decide ((16 : Int) = (0 : Int))) = some () := rfl
  have e2 : Int.tmod (ln b) 16 = ((b.length % 16 : Nat) : Int) := rfl
  have e3 : w64 ((16 : Int) - ((b.length % 16 : Nat) : Int)) = ((16 - b.length % 16 : Nat) : Int) := by rw [w64_id (by omega) (by omega)]; omega
  have e4 : Int.tmod ((16 - b.length % 16 : Nat) : Int) 16 = (((16 - b.length % 16) % 16 : Nat) : Int) := rfl
  have e5 : w64 (ln b + (((16 - b.length % 16) % 16 : Nat) : Int)) = ((b.length + (16 - b.length % 16) % 16 : Nat) : Int) := by unfold ln; rw [w64_id (by omega) (by omega)]; omega
  have e6 := mkI_nat (N := 140737488355328) (m := b.length + (16 - b.length % 16) % 16) (by omega)
  have e7 := cpy_zs (N := b.length + (16 - b.length % 16) % 16) (b := b) (by omega)
  unfold F_word_Fill
  simp only [Tree.run, e0, cond_false, e1, e2, e3, e4, e5, e6, Option.bind_some, List.length_replicate]
  rw [e7]
  unfold fill16
  congr 4
  omega
theorem length_run {n m : Nat} (hn : 5 ≤ n) (hm : m ≤ 1000000) : (F_box_length n (m : Int)).run = some (leN 8 m) := by
  have e1 : (UInt32.ofNat m).toNat = m := by rw [UInt32.toNat_ofNat']; omega
  have e2 : (UInt32.ofNat (UInt64.toNat (shr64 (int64 (m : Int)) 32))).toNat = m / 4294967296 := by
    rw [int64_nat, shr64_nat (by omega), UInt32.toNat_ofNat', UInt64.toNat_ofNat']; omega
  have a1 : appI 140737488355328 ([] : List UInt8) (leN 4 m) = some (leN 4 m) := appI_le (by rw [leN_len]; simp)
  have a2 : appI 140737488355328 (leN 4 m) (leN 4 (m / 4294967296)) = some (leN 4 m ++ leN 4 (m / 4294967296)) := appI_le (by rw [leN_len, leN_len]; omega)
  unfold F_box_length
  simp only [Tree.run, int32_nat, store_le hn, e1, e2, a1, a2, Option.bind_some]
  rw [leN_split 4 4]
theorem tag_l0 {n : Nat} (hn : 6 ≤ n) {key other mx : List UInt8} {r a s : List UInt64} (hr : TightP r (leV (clS (key.take 16)))) (h : HeldP key [] a []) (ho : other.length ≤ 1000000) (hm : mx.length ≤ 1000000) (hon : other.length + 31 < 16 * n) (hmn : mx.length + 31 < 16 * n) :
    ∃ a' t', (F_box_tag_l0_1 n n (List.set (List.set ([([] : List UInt8), ([] : List UInt8)] : List (List UInt8)) 0 other) 1 mx) (0 : Int) r a s []).run = some (a', t') ∧ HeldP key (fill16 other ++ fill16 mx) a' t' := by
  have f1 := fill16_len other
  have f2 := fill16_len mx
  obtain ⟨a1, t1, h1, k1⟩ := padd (n := n) hn (s := s) (b := fill16 other) hr h (by omega) (by omega)
  obtain ⟨a2, t2, h2, k2⟩ := padd (n := n) hn (s := s) (b := fill16 mx) hr k1 (by omega) (by omega)
  refine ⟨a2, t2, ?_, by simpa using k2⟩
  obtain ⟨m, rfl⟩ : ∃ q, n = q + 6 := ⟨n - 6, by omega⟩
  generalize hN : m + 6 = N at *
  have hu : ∀ k, m + 6 = k → F_box_tag_l0_1 N k = F_box_tag_l0_1 N (m + 6) := by rintro k rfl; rfl
  rw [hu N hN]
  have g0 : getI (List.set (List.set ([([] : List UInt8), ([] : List UInt8)] : List (List UInt8)) 0 other) 1 mx) (0 : Int) = some other := rfl
  have g1 : getI (List.set (List.set ([([] : List UInt8), ([] : List UInt8)] : List (List UInt8)) 0 other) 1 mx) (1 : Int) = some mx := rfl
  have d0 : decide ((0 : Int) < (2 : Int)) = true := rfl
  have d1 : decide ((1 : Int) < (2 : Int)) = true := rfl
  have d2 : decide ((2 : Int) < (2 : Int)) = false := rfl
  have w0 : w64 ((0 : Int) + 1) = 1 := rfl
  have w1 : w64 ((1 : Int) + 1) = 2 := rfl
  rw [F_box_tag_l0_1, F_box_tag_l0_1, F_box_tag_l0_1]
  simp only [Tree.run, d0, cond_true, g0, fill_run ho, w0, h1, Option.bind_some, d1, g1, fill_run hm, w1, h2, d2, cond_false]
theorem tag_run {n : Nat} (hn : 17 ≤ n) {b0 b1 : Bool} {key nonce other mx : List UInt8} (hk : key.length = 32) (hnc : nonce.length = 12) (ho : other.length ≤ 1000000) (hm : mx.length ≤ 1000000) (hon : other.length + 31 < 16 * n) (hmn : mx.length + 31 < 16 * n) :
    (F_box_tag n b0 key b1 nonce other mx).run = some (tagS key nonce other mx) := by
  unfold tagS boundS
  have e1 := cblock_run hn (b0 := b0) (b1 := b1) hk hnc (c := 0)
  have hcl : (chaB (gridS key nonce 0)).length = 64 := chaB_len gridS_len
  obtain ⟨r, s, p1, p2, p3⟩ := pnew (n := n) (by omega) (f := false) (key := (chaB (gridS key nonce 0)).take 32) (by simp; omega)
  obtain ⟨a1, t1, h1, k1⟩ := tag_l0 (n := n) (by omega) (s := s) p2 (held0 _) ho hm hon hmn
  have l1 := length_run (n := n) (m := other.length) (by omega) ho
  have l2 := length_run (n := n) (m := mx.length) (by omega) hm
  obtain ⟨a2, t2, h2, k2⟩ := padd (n := n) (by omega) (s := s) (b := leN 8 other.length) p2 k1 (by rw [leN_len]; omega) (by rw [leN_len]; omega)
  obtain ⟨a3, t3, h3, k3⟩ := padd (n := n) (by omega) (s := s) (b := leN 8 mx.length) p2 k2 (by rw [leN_len]; omega) (by rw [leN_len]; omega)
  have ht : t3 = [] := by
    have := k3.t
    rw [foldB_rest (by decide) _ _ _ (Nat.le_refl _)] at this
    rw [this]
    apply List.drop_of_length_le
    have := boundS_len other mx
    unfold boundS at this
    rw [this]; omega
  subst ht
  have e5 := ptag (n := n) (by omega) (r := r) p3 k3
  unfold F_box_tag
  simp only [Tree.run, e1, Option.bind_some, List.drop_zero, p1, run_r]
  refine bndO h1 ?_
  refine bndO l1 ?_
  simp only [Option.bind_some, h2]
  refine bndO l2 ?_
  simp only [Option.bind_some, h3, e5]
theorem right_run {n : Nat} {key nonce : List UInt8} (hk : key.length = 32) (hnc : nonce.length = 12) : (F_box_right n key nonce).run = some true := by
  unfold F_box_right; rw [lnEq hk, lnEq hnc]; rfl
theorem size_run {n m : Nat} (hm : m ≤ 1000000) : (F_box_Size n (m : Int)).run = some ((m + 16 : Nat) : Int) := by
  have e1 : maxI (m : Int) 0 = m := by unfold maxI; split <;> omega
  have e2 : w64 ((m : Int) + 16) = ((m + 16 : Nat) : Int) := by rw [w64_id (by omega) (by omega)]; omega
  unfold F_box_Size
  simp only [Tree.run, e1, e2]
theorem seal_run {n : Nat} (hn : 17 ≤ n) {b0 b1 : Bool} {key nonce other text : List UInt8} (hk : key.length = 32) (hnc : nonce.length = 12) (ho : other.length ≤ 1000000) (hm : text.length ≤ 900000) (hon : other.length + 31 < 16 * n) (hmn : text.length + 31 < 16 * n) :
    (F_box_Seal n b0 key b1 nonce other text).run = some (0, sealS key nonce other text) := by
  have e1 := mix_run (key := key) (nonce := nonce) (b := text) hk hnc (by omega)
  have hml : (mixP key nonce 1 0 text).length = text.length := mixP_len _ _
  have e2 := size_run (n := n) (m := text.length) (by omega)
  have e3 := mkI_nat (N := 140737488355328) (m := text.length + 16) (by omega)
  have e4 := tag_run hn (b0 := b0) (b1 := b1) (mx := mixP key nonce 1 0 text) hk hnc ho (by omega) hon (by omega)
  have e5 : cpy (List.replicate (text.length + 16) (0 : UInt8)) 0 (text.length + 16) (mixP key nonce 1 0 text) = mixP key nonce 1 0 text ++ zs 16 := by
    have := cpy_zs (N := text.length + 16) (b := mixP key nonce 1 0 text) (by omega)
    rw [hml, Nat.add_sub_cancel_left] at this
    exact this
  have hL : (mixP key nonce 1 0 text ++ zs 16).length = text.length + 16 := by rw [List.length_append, hml]; simp
  have e6 : (ite (And ((0 : Int) ≤ (ln (mixP key nonce 1 0 text))) (And ((ln (mixP key nonce 1 0 text)) ≤ (ln (mixP key nonce 1 0 text ++ zs 16))) ((ln (mixP key nonce 1 0 text ++ zs 16)) ≤ (ln (mixP key nonce 1 0 text ++ zs 16))))) (Option.some Unit.unit) Option.none) = some () := if_pos ⟨by unfold ln; omega, by unfold ln; omega, by omega⟩
  have e7 : cpy (mixP key nonce 1 0 text ++ zs 16) text.length 16 (tagS key nonce other (mixP key nonce 1 0 text)) = sealS key nonce other text := by
    rw [cpy_at hml (by rw [tagS_len]; simp) (by rw [tagS_len]; omega), tagS_len]
    unfold sealS
    simp
  have e8 : (!(decide ((0 : Int) = (0 : Int)))) = false := rfl
  have q1 : Int.toNat (ln (mixP key nonce 1 0 text)) = text.length := by unfold ln; rw [hml]; rfl
  have q2 : Int.toNat (ln (mixP key nonce 1 0 text ++ zs 16)) = text.length + 16 := by unfold ln; rw [hL]; rfl
  rw [F_box_Seal]
  refine rS (right_run hk hnc) (rE rfl (rG e1 (rE e8 (rS e2 (rG e3 ?_)))))
  simp only [List.length_replicate, e5]
  refine rG e6 (rG e4 ?_)
  rw [q1, q2, Nat.add_sub_cancel_left, List.drop_zero, List.take_length, Nat.zero_add, e7]
  rfl
theorem same_l0 {n : Nat} {f g : Bool} {a b : List UInt8} (hl : a.length = b.length) (hb : a.length ≤ 1000000) : ∀ (k i : Nat) (v : UInt8), i ≤ a.length → a.length < i + k →
    ∃ v', (F_word_Same_l0 n k g b v f a (a.length : Int) (i : Int)).run = some v' ∧ (v' = 0 ↔ v = 0 ∧ a.drop i = b.drop i)
  | 0, _, _, _, h => by omega
  | k + 1, i, v, h1, h2 => by
    unfold F_word_Same_l0
    by_cases hi : i = a.length
    · have e1 : decide ((i : Int) < (a.length : Int)) = false := decide_eq_false (by omega)
      refine ⟨v, by simp only [Tree.run, e1, cond_false], ?_⟩
      rw [List.drop_of_length_le (by omega), List.drop_of_length_le (by omega)]; simp
    · have h3 : i < a.length := by omega
      have h4 : i < b.length := by omega
      have e1 : decide ((i : Int) < (a.length : Int)) = true := decide_eq_true (by omega)
      have e2 : getI a (i : Int) = some a[i] := getI_lt h3
      have e3 : getI b (i : Int) = some b[i] := getI_lt h4
      have e8 : w64 ((i : Int) + 1) = ((i + 1 : Nat) : Int) := w64_succ (by omega)
      obtain ⟨v', q1, q2⟩ := same_l0 (n := n) (f := f) (g := g) hl hb k (i + 1) (v ||| (a[i] ^^^ b[i])) (by omega) (by omega)
      refine ⟨v', by simp only [Tree.run, e1, cond_true, e2, e3, e8, Option.bind_some, q1], ?_⟩
      rw [q2, List.drop_eq_getElem_cons h3, List.drop_eq_getElem_cons h4, List.cons.injEq]
      have ho : (v ||| (a[i] ^^^ b[i])) = 0 ↔ v = 0 ∧ a[i] = b[i] := by
        rw [UInt8.or_eq_zero_iff, UInt8.xor_eq_zero_iff]
      rw [ho, and_assoc]
theorem same_run {n : Nat} {f g : Bool} {a b : List UInt8} (hb : a.length ≤ 1000000) (hn : a.length < n) : (F_word_Same n f a g b).run = some (decide (a = b)) := by
  unfold F_word_Same
  by_cases hl : a.length = b.length
  · have e1 : (!(decide ((ln a) = (ln b)))) = false := by rw [lnEq hl, decide_eq_true rfl]; rfl
    obtain ⟨v, q1, q2⟩ := same_l0 (n := n) (f := f) (g := g) hl hb n 0 0 (by omega) (by omega)
    rw [List.drop_zero, List.drop_zero] at q2
    simp only [Tree.run, e1, cond_false]
    refine bndO q1 ?_
    congr 1
    exact decide_eq_decide.2 (q2.trans ⟨fun h => h.2, fun h => ⟨rfl, h⟩⟩)
  · have e1 : (!(decide ((ln a) = (ln b)))) = true := by simp; unfold ln; omega
    simp only [Tree.run, e1, cond_true]
    congr 1
    symm
    simp only [decide_eq_false_iff_not]
    intro h; exact hl (congrArg List.length h)
theorem open_run {n : Nat} (hn : 17 ≤ n) {b0 b1 : Bool} {key nonce other b : List UInt8} (hk : key.length = 32) (hnc : nonce.length = 12) (ho : other.length ≤ 1000000) (hb : b.length ≤ 900000) (h16 : 16 ≤ b.length) (hon : other.length + 31 < 16 * n) (hbn : b.length + 31 < 16 * n) :
    (F_box_Open n b0 key b1 nonce other b).run = some (match openS key nonce other b with | some t => .inr (t, 0) | none => .inl 7) := by
  have e0 : w64 (ln b - 16) = ((b.length - 16 : Nat) : Int) := by unfold ln; rw [w64_id (by omega) (by omega)]; omega
  have e1 : decide (((b.length - 16 : Nat) : Int) < 0) = false := decide_eq_false (by omega)
  have e2 : (ite (And (((b.length - 16 : Nat) : Int) ≤ ((b.length - 16 : Nat) : Int)) (((b.length - 16 : Nat) : Int) ≤ (ln b))) (subI b (0 : Int) ((b.length - 16 : Nat) : Int)) Option.none) = some (b.take (b.length - 16)) := by
    rw [if_pos ⟨by omega, by unfold ln; omega⟩]
    have := subI_nat (l := b) (a := 0) (b := b.length - 16) (by omega) (by omega)
    rw [List.drop_zero, Nat.sub_zero] at this
    exact this
  have e3 := tag_run hn (b0 := b0) (b1 := b1) (mx := b.take (b.length - 16)) hk hnc ho (by simp; omega) hon (by simp; omega)
  have e4 : subI b ((b.length - 16 : Nat) : Int) (ln b) = some (b.drop (b.length - 16)) := by
    have := subI_nat (l := b) (a := b.length - 16) (b := b.length) (by omega) (by omega)
    rw [List.take_of_length_le (by simp)] at this
    exact this
  have e5 := same_run (n := n) (f := false) (g := false) (a := tagS key nonce other (b.take (b.length - 16))) (b := b.drop (b.length - 16)) (by rw [tagS_len]; omega) (by rw [tagS_len]; omega)
  have e6 := mix_run (key := key) (nonce := nonce) (b := b.take (b.length - 16)) hk hnc (by simp; omega)
  unfold F_box_Open
  simp only [Tree.run, right_run hk hnc, Option.bind_some, Bool.not_true, cond_false, e0, e1, e2, e3, e4, e5]
  unfold openS
  by_cases h : tagS key nonce other (b.take (b.length - 16)) = b.drop (b.length - 16)
  · simp only [h, decide_true, Bool.not_true, cond_false, e6, Option.bind_some, if_true]
  · simp only [h, decide_false, Bool.not_false, cond_true, if_false]
def keyL (master purpose : List UInt8) (epoch : Nat) : List UInt8 := macS master (purpose ++ [0] ++ beN 8 epoch)
theorem keyL_len (master purpose : List UInt8) (epoch : Nat) : (keyL master purpose epoch).length = 32 := macS_len _ _
def idS (key : List UInt8) (kind : Nat) (text : List UInt8) : List UInt8 := macS key (UInt8.ofNat kind :: text)
theorem idS_len (key : List UInt8) (kind : Nat) (text : List UInt8) : (idS key kind text).length = 32 := macS_len _ _
def nonceS (epoch number : Nat) : List UInt8 := beN 4 epoch ++ beN 8 number
theorem nonceS_len (e n : Nat) : (nonceS e n).length = 12 := by rw [nonceS, List.length_append, beN_len, beN_len]
theorem int64_of {e : Nat} (h : e ≤ 9223372036854775807) : (int64 (e : Int)).toNat = e := by rw [int64_nat, UInt64.toNat_ofNat']; omega
theorem lkey_run {n : Nat} (hn : 65 ≤ n) {master p : List UInt8} {e : Nat} (hm : master.length = 32) (hp : p.length ≤ 16) (hr : rightI p (e : Int) = some true) (he : e ≤ 64) : (F_label_Key n master p (e : Int)).run = some (.inr (keyL master p e)) := by
  have e0 : (!(decide ((ln master) = (32 : Int)))) = false := by rw [lnEq hm]; rfl
  have e1 : bytesI p = some p := if_pos (by omega)
  have e2 := tell_be (n := n) (by omega) (w := int64 (e : Int))
  rw [int64_of (by omega)] at e2
  have e3 := mtag (n := n) hn (b0 := false) (key := master) (by omega) (by omega) (l := [p, [0], beN 8 e]) (by
    intro b hb
    simp only [List.mem_cons, List.not_mem_nil, or_false] at hb
    rcases hb with rfl | rfl | rfl
    · omega
    · simp; omega
    · rw [beN_len]; omega) (by simp) (by simp; omega)
  have e4 : ([p, [0], beN 8 e] : List (List UInt8)).flatten = p ++ [0] ++ beN 8 e := by simp
  rw [e4] at e3
  unfold F_label_Key
  simp only [Tree.run, e0, cond_false, hr, Bool.not_true, e1, e2, Option.bind_some]
  refine bndO e3 ?_
  rfl
theorem lid_run {n : Nat} (hn : 65 ≤ n) {key text : List UInt8} {k : Nat} (hk : key.length = 32) (h : k ≤ 255) (ht : text.length + 64 < 64 * n) (hc : text.length ≤ 1000000) : (F_label_ID n key (k : Int) text).run = some (idS key k text, 0) := by
  have e0 : ((!(decide ((ln key) = (32 : Int)))) || ((decide ((k : Int) < (0 : Int))) || (decide ((255 : Int) < (k : Int))))) = false := by rw [lnEq hk, decide_eq_false (p := (k : Int) < 0) (by omega), decide_eq_false (p := (255 : Int) < (k : Int)) (by omega)]; rfl
  have e3 := mtag (n := n) hn (b0 := false) (key := key) (by omega) (by omega) (l := [[UInt8.ofNat k], text]) (by
    intro b hb
    simp only [List.mem_cons, List.not_mem_nil, or_false] at hb
    rcases hb with rfl | rfl
    · simp; omega
    · omega) (by simp) (by simp; omega)
  have e4 : ([[UInt8.ofNat k], text] : List (List UInt8)).flatten = UInt8.ofNat k :: text := by simp
  rw [e4] at e3
  unfold F_label_ID
  simp only [Tree.run, e0, cond_false, int8_nat, ofNat_mod]
  refine bndO e3 ?_
  rfl
theorem counter_right {n e m : Nat} : (F_nonce_Counter_Right n (e : Int) (m : Int)).run = some (decide (e ≤ 64 ∧ m ≤ 1099511627776)) := by
  unfold F_nonce_Counter_Right
  simp only [Tree.run]
  congr 1
  by_cases h1 : e ≤ 64 <;> by_cases h2 : m ≤ 1099511627776 <;> simp [h1, h2] <;> omega
theorem nonce_run {n : Nat} (hn : 9 ≤ n) {e m : Nat} (he : e ≤ 64) (hm : m ≤ 1099511627776) : (F_nonce_Of n (e : Int) (m : Int)).run = some (.inr (nonceS e m)) := by
  have e1 : (UInt32.ofNat e).toNat = e := by rw [UInt32.toNat_ofNat']; omega
  have e2 := tell_be (n := n) hn (w := int64 (m : Int))
  rw [int64_of (by omega)] at e2
  have e3 := store_be (n := n) (by omega) (w := UInt32.ofNat e)
  rw [e1] at e3
  have c1 : cpy (zs 12) 0 4 (beN 4 e) = beN 4 e ++ zs 8 := by
    have := cpy_at (done := []) (ys := beN 4 e) (r := zs 12) (i := 0) (N := 4) rfl (by rw [beN_len]; simp) (by rw [beN_len]; omega)
    rw [List.nil_append, List.nil_append, beN_len, List.drop_replicate] at this
    exact this
  have c2 : cpy (beN 4 e ++ zs 8) 4 8 (beN 8 m) = nonceS e m := by
    have := cpy_at (done := beN 4 e) (ys := beN 8 m) (r := zs 8) (i := 4) (N := 8) (beN_len _ _) (by rw [beN_len]; simp) (by rw [beN_len]; omega)
    rw [this, beN_len, List.drop_replicate]
    unfold nonceS; simp
  unfold F_nonce_Of
  simp only [Tree.run, counter_right, he, hm, and_self, decide_true, Bool.not_true, cond_false, Option.bind_some, int32_nat, e3, e2, List.drop_zero, List.take_length, c1, c2]
end Hyp
