/- A region that draws its order: each step. -/
import Derived.Test.YtdlbmjbbnplpjaaMx
set_option linter.unusedVariables false
set_option linter.unusedSimpArgs false
namespace Hyp
open Go
section
variable {P : Program} {tab : Tab} {B : Base} {n m : Nat} {ν : Nms} {b0 bE : Nat} {L0 : List En} {F : List Ent} {w0 : World} {R : Recs}
theorem recOK_at {nb j : Nat} {r : Rec} (h : recOK R b0 nb m j r = true) :
    r.a.ids (mayN R b0 r.tp j) = true ∧ idsL (mayN R b0 r.tp j) r.out = true ∧ (∀ i, memN r.tp i = true → i < j ∧ ∀ i', memN (recAt R i).tp i' = true → memN r.tp i' = true) ∧ ∀ i ∈ r.src, i < nb := by
  simp only [recOK, Bool.and_eq_true, List.all_eq_true] at h
  refine ⟨h.1, h.2.1, fun i hi => ?_, fun i hi => Nat.le_of_ble_eq_true (h.2.2.2 i hi)⟩
  have := h.2.2.1 i (memN_iff.1 hi)
  exact ⟨Nat.le_of_ble_eq_true this.1, fun i' hi' => this.2 i' (memN_iff.1 hi')⟩
theorem drawn_step {ops : Array Oper} {I : List (Nat × List Nat)} {sl0 : Nat → AV} {f0 : Fr} (ht : TabOK P tab) (H : Here B ν b0 w0 L0 F) (hsl : ∀ t, slotR ν b0 (B.Z (ents ν L0 ++ F)) w0 (sl0 t) (f0 t))
    (hr : rangeOK R bE m b0 = true) (hrec : ∀ {j r}, lookR R j = some r → recOK R b0 (m + L0.length) m j r = true) (hI : ∀ j p, I[j]? = some p → p.1 = D.dstD ops j) (hItp : ∀ j p, I[j]? = some p → p.2 = (recAt R j).tp) (hIm : I.length = m)
    (hsrc : ∀ k r, lookR R k = some r → ∀ j ∈ r.src, j < m → memN r.tp j = true)
    {k : Nat} {o : Oper} {r : Rec} (hkm : k < m) (hk : lookR R k = some r) (hall : ∀ j, j < m → ∃ r, lookR R j = some r) (hst : StepOK P tab I sl0 L0 m R k o r) :
    D.StepAt P B m ops (specs R ν b0 bE m) f0 w0 (ents ν L0 ++ [packE F]) k o (recSpec R ν b0 bE k r) := by
  intro f w l' cur val hcur hown hbase hknown
  have hrk : recAt R k = r := by unfold recAt; rw [hk]; rfl
  obtain ⟨c1, c2, c3, c4⟩ := recOK_at (hrec hk)
  obtain ⟨g1, g2, g3, g4⟩ := rangeOK_at hr hk
  -- the earlier ones
  have known : ∀ j, memN r.tp j = true → ∃ rj, lookR R j = some rj ∧ j < m ∧ idsL (mayN R b0 rj.tp j) rj.out = true ∧ (∀ i r', (i = j ∨ memN rj.tp i = true) → lookR R i = some r' → r'.hi ≤ r.lo) ∧ f (D.dstD ops j) = (val j).1 ∧ D.okAt (specs R ν b0 bE m) val j (B.Z cur) w ∧ slotR (allN R ν b0 val) r.lo (B.Z cur) w rj.a (val j).1 := by
    intro j hj
    have hjk := (c3 j hj).1
    obtain ⟨rj, hrj⟩ := hall j (by omega)
    have hrec2 := recOK_at (hrec hrj)
    have hkn := hknown j (by show r.tp.contains j = true; rw [memN_con]; exact hj)
    have hatj : recAt R j = rj := by unfold recAt; rw [hrj]; rfl
    have htop : ∀ i r', (i = j ∨ memN rj.tp i = true) → lookR R i = some r' → r'.hi ≤ r.lo := by
      intro i r' hi hr'
      have : i < k := by
        rcases hi with rfl | hi
        · exact hjk
        · have := (hrec2.2.2.1 i hi).1; omega
      exact rangeOK_two hr hr' hk this
    refine ⟨rj, hrj, by omega, hrec2.2.1, htop, hkn.1, hkn.2, ?_⟩
    have h2 := hkn.2
    unfold D.okAt at h2
    rw [specs_get (by omega), hatj] at h2
    exact (alike_done hr hrj htop g3).slot hrec2.1 h2.1
  have hz0 : B.Z (ents ν L0 ++ F) = B.Z (ents ν L0 ++ [packE F]) := Z_pack (fun x => (footU_pack (ents ν L0) F x).symm)
  have hbaseS : ∀ t, slotR (allN R ν b0 val) r.lo (B.Z cur) w (sl0 t) (f0 t) := fun t => (hsl t).later ⟨fun i hi => all_low hi, g3, fun x hx hz => by
    rw [hz0] at hz
    exact TT.now hown hx hz⟩
  -- the slots
  have slots : ∀ (kn : List (Nat × Bool)), KF R kn k → ∀ t, slotR (allN R ν b0 val) r.lo (B.Z cur) w (slD I R kn sl0 r.tp k t) (f t) := by
    intro kn hkn t
    unfold slD
    split
    · rename_i j hj
      obtain ⟨p, p1, p2, _⟩ := findD_at hj
      rw [Nat.sub_zero] at p1
      cases hm : memN r.tp j
      · exact trivial
      · simp only [cond_true]
        obtain ⟨rj, q1, q2, q3, q4, q5, q6, q7⟩ := known j hm
        have hd : D.dstD ops j = t := by rw [← hI j p p1, p2]
        rw [← hd, q5]
        have hatj : recAt R j = rj := by unfold recAt; rw [q1]; rfl
        refine refine_slot hkn ?_
        rw [hatj]
        exact q7
    · rename_i hnone
      cases hbt : baseT I 0 k t
      · exact trivial
      · simp only [cond_true]
        rw [hbase t]
        · exact hbaseS t
        · simp only [D.baseAt, List.all_eq_true, List.mem_range, Bool.or_eq_true]
          intro j hj
          obtain ⟨p, hp⟩ : ∃ p, I[j]? = some p := ⟨I[j]'(by omega), List.getElem?_eq_getElem _⟩
          rcases baseT_at hbt j p hp with h1 | h1 | h1
          · left; left
            rw [← hI j p hp]
            simpa using h1
          · left; right
            simp; omega
          · right
            rw [specs_get hj]
            show (recAt R j).tp.contains k = true
            rw [memN_con, ← hItp j p hp]
            exact h1
  -- the sources
  obtain ⟨e1, e2⟩ := src_ents (val := val) (f := f) (ops := ops) H hr hown g3 (js := r.src) c4 (fun j hj hjm => by
    obtain ⟨rj, q1, q2, q3, q4, q5, q6, q7⟩ := known j (hsrc k r hk j hj hjm)
    exact ⟨rj, q1, q3, q4, q6⟩)
  have hcur2 : cur = ents (allN R ν b0 val) (r.src.flatMap (srcEn R L0 m)) ++ l' := by
    rw [hcur, ← e1]
    show (bif r.eat then r.src else []).flatMap _ ++ ((bif r.eat then [] else r.src).flatMap _ ++ l') = _
    cases r.eat <;> simp
  have here : Here B (allN R ν b0 val) r.lo w (r.src.flatMap (srcEn R L0 m)) l' := by
    rw [hcur2] at hown e2
    exact ⟨hown.fresh, e2⟩
  -- done
  have done : (∃ kn a L' b', KF R kn k ∧ (opF P tab o.op (opA (slD I R kn sl0 r.tp k)) (r.src.flatMap (srcEn R L0 m)) r.lo).run = some (a, L', b') ∧ r.a = dstA o a ∧ ((pureOp P o.op = true ∧ r.out = [] ∧ r.hi = r.lo ∧ r.eat = false) ∨ (r.out = L' ∧ r.hi = b' ∧ r.eat = true))) →
      OpW P o.op o.type f w fun v w' => ∃ g : D.GV, g.1 = D.kv o v ∧ (recSpec R ν b0 bE k r).ok (r.tp.map val) g (B.Z ((recSpec R ν b0 bE k r).ent (r.tp.map val) g ++ ((recSpec R ν b0 bE k r).reads.flatMap (D.entB m (specs R ν b0 bE m) (ents ν L0 ++ [packE F]) val) ++ l'))) w' ∧
        Own w (footU cur) w' ((recSpec R ν b0 bE k r).ent (r.tp.map val) g ++ ((recSpec R ν b0 bE k r).reads.flatMap (D.entB m (specs R ν b0 bE m) (ents ν L0 ++ [packE F]) val) ++ l')) := by
    rintro ⟨kn, a, L', b', hkn, hrun, ha, hcase⟩
    have hops : ∀ x, slotR (allN R ν b0 val) r.lo (B.Z (ents (allN R ν b0 val) (r.src.flatMap (srcEn R L0 m)) ++ l')) w (opA (slD I R kn sl0 r.tp k) x) (ev f x) := by
      rw [← hcur2]
      exact opA_ok (slots kn hkn)
    refine (opF_ok (ty := o.type) ht here hops a L' b' hrun).mono ?_
    rintro v w' ⟨ν', hl, hv⟩
    have hlow : ∀ i, i < r.lo → ν' i = allN R ν b0 val i := hl.nms
    have hal := alike_new (v := D.kv o v) hr hk hlow (fun i hi => (c3 i hi).1)
    have hva : ∀ {bb : Nat} {Z : Nat → Prop}, slotR ν' bb Z w' a v → slotR ν' bb Z w' r.a (D.kv o v) := by
      intro bb Z h
      rw [ha]
      unfold dstA D.kv
      cases o.dst with
      | some d => exact h
      | none => exact rfl
    refine ⟨(D.kv o v, ν'), rfl, ?_⟩
    rcases hcase with ⟨h1, h2, h3, h4⟩ | ⟨h1, h2, h3⟩
    · -- pure
      obtain ⟨rfl, rfl⟩ := pure_same h1 hrun
      have hent : (recSpec R ν b0 bE k r).ent (r.tp.map val) (D.kv o v, ν') = [] := by show r.out.map _ = []; rw [h2]; rfl
      have hre : (recSpec R ν b0 bE k r).reads = r.src := by show (bif r.eat then [] else r.src) = _; rw [h4]; rfl
      have hnew : ents ν' (r.src.flatMap (srcEn R L0 m)) = ents (allN R ν b0 val) (r.src.flatMap (srcEn R L0 m)) := List.map_congr_left fun e he => entOf_congr hlow (here.fact e he).1 (here.fact e he).2.1
      have hown2 := hl.own
      rw [hnew] at hown2 hv
      rw [hent, List.nil_append, hre, e1]
      refine ⟨⟨?_, fun e he => ?_⟩, by rw [hcur2]; exact hown2⟩
      · rw [h3] at hal
        exact hal.slot c1 (hva hv)
      · rw [h2] at he; cases he
    · -- changed
      have hent : (recSpec R ν b0 bE k r).ent (r.tp.map val) (D.kv o v, ν') = ents ν' L' := by
        show r.out.map _ = _
        rw [h1]
        refine List.map_congr_left fun e he => hal.ent (idsL_at c2 e (by rw [h1]; exact he)) (by rw [h2]; exact hl.fact e he)
      have hre : (recSpec R ν b0 bE k r).reads = [] := by show (bif r.eat then [] else r.src) = _; rw [h3]; rfl
      rw [hent, hre]
      simp only [List.flatMap_nil, List.nil_append]
      refine ⟨⟨?_, fun e he => ?_⟩, by rw [hcur2]; exact hl.own⟩
      · rw [h2] at hal
        exact hal.slot c1 (hva hv)
      · refine hal.en (idsL_at c2 e he) ?_
        rw [h2]
        rw [h1] at he
        exact hl.fact e he
  rcases hst with ⟨j, want, hg, hm, hn, ha, ho, hs, he, hh⟩ | ⟨hg, hdo⟩
  · rw [hg]
    obtain ⟨rj, q1, q2, q3, q4, q5, q6, q7⟩ := known j hm
    have hatj : recAt R j = rj := by unfold recAt; rw [q1]; rfl
    obtain ⟨y, hy, hyn⟩ := hn _ _ _ _ _ (hatj ▸ q7)
    refine ⟨by show r.tp.contains j = true; rw [memN_con]; exact hm, y, by rw [q5, hy], fun h => absurd h hyn, fun _ => ?_⟩
    refine ⟨(undef, nu0), rfl, ⟨?_, fun e h => ?_⟩, ?_, ?_⟩
    · rw [ha]; exact rfl
    · rw [ho] at h; cases h
    · show r.out.map _ = []; rw [ho]; rfl
    · show (bif r.eat then r.src else []) = []; rw [he]; rfl
  · rcases hg with hg | ⟨j, want, hg, hm, hw⟩
    · rw [hg]
      exact done hdo
    · rw [hg]
      obtain ⟨rj, q1, q2, q3, q4, q5, q6, q7⟩ := known j hm
      have hatj : recAt R j = rj := by unfold recAt; rw [q1]; rfl
      have hy := hw _ _ _ _ _ (hatj ▸ q7)
      refine ⟨by show r.tp.contains j = true; rw [memN_con]; exact hm, some want, by rw [q5, hy]; rfl, fun _ => done hdo, fun h => absurd rfl h⟩
end
end Hyp
