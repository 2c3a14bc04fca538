/-
  ExploreRun: the law.
-/
import Derived.Test.YtipihecaaakagaaMxFh
set_option linter.unusedVariables false
set_option linter.unusedSimpArgs false
namespace Go.Mx

def runP (sz : Int) (bs : List Int) (xss : List (List Ac)) (ps : List Int) (e : Int) : PlS := if e = 0 then playP sz bs xss ps else ([], [])

theorem run_spec {s : Sc} {t : Sl} {h : Heap} {bs ps : List Int} {xss : List (List Ac)} {c1 : Sc → Sl → Heap → (Int → Heap → Prop) → Prop} {c2 : Sc → Sl → Heap → (Den kapiEnding → Heap → Prop) → Prop}
    (i1 : ∀ {Q : Int → Heap → Prop}, (∀ e h', Rdy s.1 bs.length xss ps e → le h h' → Q e h') → c1 s t h Q)
    (i2 : ∀ {h' : Heap} {Q : Den kapiEnding → Heap → Prop}, le h h' → chkE s.1 bs.length xss = 0 → ScriptP (xss.map List.length) ps → (∀ e h2, EndR h' h2 e (playP s.1 bs xss ps) → Q e h2) → c2 s t h' Q)
    {Q : (Den kapiEnding × (Int × Unit)) → Heap → Prop} (hQ : ∀ en e h', Rdy s.1 bs.length xss ps e → EndR h h' en (runP s.1 bs xss ps e) → Q (en, (e, ())) h') : explore_Run.M c1 c2 s t h Q := by
  refine i1 fun e h' hr l => ⟨fun d => ?_, fun d => ?_⟩
  · have d : e ≠ 0 := of_decide_eq_true d
    refine hQ _ e h' hr ?_
    unfold runP
    rw [if_neg d]
    exact (EndR.none h').base l
  · have d : ¬ e ≠ 0 := of_decide_eq_false d
    have d : e = 0 := by omega
    subst d
    obtain ⟨a, b⟩ := hr.ok
    exact i2 l a b fun en h2 q => hQ en 0 h2 hr (q.base l)
/-- What a run tells is not long. -/
theorem runP_small {sz : Int} {bs : List Int} {xss : List (List Ac)} {ps : List Int} {e : Int} (hr : Rdy sz bs.length xss ps e) (hn : ps.length ≤ 1048576) (hx : xss.length ≤ 1048576) :
    (runP sz bs xss ps e).2.length ≤ 1048576 ∧ (∀ r ∈ (runP sz bs xss ps e).2, r.length ≤ 1048576) ∧ (runP sz bs xss ps e).1.length ≤ 1048576 := by
  unfold runP
  split
  · rename_i d
    subst d
    obtain ⟨a, b⟩ := hr.ok
    obtain ⟨_, z1, z2, _⟩ := chkE_ok a
    have hin := b.1
    rw [List.length_map] at hin
    refine ⟨by rw [playP_len]; exact hx, fun r hr => ?_, by have := playP_cells (xss := xss) z2 ps; omega⟩
    obtain ⟨i, hi⟩ := List.mem_iff_getElem?.1 hr
    have hil : i < xss.length := by rw [← playP_len (sz := sz) (bs := bs) ps]; exact (List.getElem?_eq_some_iff.1 hi).1
    have := playP_cnt (sz := sz) (bs := bs) hin hil
    rw [hi] at this
    dsimp only [Option.getD] at this
    have h2 := cnt_le ps ps.length i
    rw [List.take_length] at h2
    omega
  · exact ⟨Nat.zero_le _, fun r hr => (by cases hr), Nat.zero_le _⟩

theorem sameEnding_spec {a b : Den kapiEnding} {h : Heap} {ea eb : List Sl} {st : PlS} {h1 h2 : Heap} (na : Nest h1 h kapiEffect a.1 ea st.2) (ca : New h1 h ki a.2.1 st.1) (nb : Nest h2 h kapiEffect b.1 eb st.2) (cb : New h2 h ki b.2.1 st.1)
    (hs : st.2.length ≤ 1048576 ∧ (∀ r ∈ st.2, r.length ≤ 1048576) ∧ st.1.length ≤ 1048576) {c1 : Sl → Sl → Heap → (Bool → Heap → Prop) → Prop} (i1 : ∀ {x y Q}, law22_sameCells.M x y h Q → c1 x y h Q) {Q : Bool → Heap → Prop} (hQ : Q true h) : law22_sameEnding.M c1 a b h Q := by
  obtain ⟨ao, ac, ua⟩ := a
  obtain ⟨bo, bc, ub⟩ := b
  dsimp only at na ca nb cb
  have la : ea.length = ao.len := na.out.len
  have lb : eb.length = bo.len := nb.out.len
  have l1 := na.len
  have l2 := nb.len
  have l0 := hs.1
  refine i1 (sameCells_spec ca.arr cb.arr hs.2.2 ⟨fun e => (by cases e), fun _ => ⟨fun e => absurd (of_decide_eq_true e) (by show ¬ (ao.len : Int) ≠ (bo.len : Int); omega), fun _ => ?_⟩⟩)
  refine Loop.up ea.length (fun s => s.1) (fun i s k => k = h) rfl rfl ?_
  rintro i ⟨i', u⟩ k go hi hc rfl hgo
  dsimp only at hc; subst hc
  refine ⟨fun e => ?_, fun _ => hQ⟩
  have e : (i : Int) < (ao.len : Int) := of_decide_eq_true e
  have hia : i < ea.length := by omega
  have hib : i < eb.length := by omega
  have his : i < st.2.length := by omega
  have hbA : (0 : Int) ≤ (i : Int) ∧ (i : Int) < (ao.len : Int) := by omega
  have hbB : (0 : Int) ≤ (i : Int) ∧ (i : Int) < (bo.len : Int) := by omega
  have hea : ea[i]? = some ea[i] := by simp
  have heb : eb[i]? = some eb[i] := by simp
  have hst : st.2[i]? = some st.2[i] := by simp
  have ra := na.row i _ _ hea hst
  have rb := nb.row i _ _ heb hst
  have rla := ra.len
  have rlb := rb.len
  have rls := hs.2.1 st.2[i] (by simp)
  have rda : ∀ {K : Sl → Prop}, K ea[i] → ((0 : Int) ≤ (i : Int) ∧ (i : Int) < (ao.len : Int)) ∧ deref ao.a fun a => ld (.sl : Kd) k (a.add ((i : Int).toNat * 1)) K := fun {K} hK =>
    ⟨hbA, na.out.arr.at hbA.1 hbA.2 rfl fun s hs => by rw [Int.toNat_natCast, hea] at hs; cases hs; exact hK⟩
  have rdb : ∀ {K : Sl → Prop}, K eb[i] → ((0 : Int) ≤ (i : Int) ∧ (i : Int) < (bo.len : Int)) ∧ deref bo.a fun a => ld (.sl : Kd) k (a.add ((i : Int).toNat * 1)) K := fun {K} hK =>
    ⟨hbB, nb.out.arr.at hbB.1 hbB.2 rfl fun s hs => by rw [Int.toNat_natCast, heb] at hs; cases hs; exact hK⟩
  refine rda (rdb ⟨fun f => absurd (of_decide_eq_true f) (by omega), fun _ => ?_⟩)
  refine Loop.up ea[i].len (fun s => s.1) (fun j s k' => k' = k) rfl rfl ?_
  rintro j ⟨j', u2⟩ k2 go2 hj hc rfl hgo2
  dsimp only at hc; subst hc
  refine rda ⟨fun f => ?_, fun f => hgo hia _ _ (w64_up' (n := ea.length) hia (by omega)) rfl⟩
  have f : (j : Int) < (ea[i].len : Int) := of_decide_eq_true f
  have hbj : (0 : Int) ≤ (j : Int) := by omega
  have fb : (j : Int) < (eb[i].len : Int) := by omega
  refine rda ⟨⟨hbj, f⟩, ra.arr.at hbj f rfl fun x hx => rdb ⟨⟨hbj, fb⟩, rb.arr.at hbj fb rfl fun y hy => ?_⟩⟩
  rw [hx] at hy; cases hy
  refine ⟨fun g => ?_, fun _ => hgo2 (by omega) _ _ (w64_up' (n := ea[i].len) (by omega) (by omega)) rfl⟩
  rw [eqK_refl] at g
  · cases g
  · rfl

end Go.Mx
