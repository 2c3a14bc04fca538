/-
  ExploreFoata: the walk.
-/
import Derived.Test.YtipihecaaakagaaMxKd
import Derived.Test.YtipihecaaakagaaMxKg
set_option linter.unusedVariables false
set_option linter.unusedSimpArgs false
set_option linter.unusedSectionVars false
namespace Go.Mx

def foaS (sz len : Int) (xss : List (List Ac)) (ps : List Int) : List (Rc × Nat) := steps (bdA sz len) (rowP xss ps ps.length)
def foataP (sz len : Int) (xss : List (List Ac)) (ps : List Int) (e : Int) : List (List Int) := if e = 0 then (List.range (formR (foaS sz len xss ps)).length).map (refRow (foaS sz len xss ps) xss.length) else []
def FoR (h0 h : Heap) (o : Sl) (zss : List (List Int)) : Prop := ∃ els, Nest h0 h ki o els zss
theorem Nest.nil (h : Heap) (k : Kd) : Nest h h k ⟨none, 0, 0⟩ [] [] := ⟨New.none (le.refl _) _, rfl, fun i sl xs a => (by cases a), List.pairwise_singleton ..⟩
theorem ScR.lists {h : Heap} {s : Sc} {bs : List Int} {xss : List (List Ac)} (r : ScR h s bs xss) : s.2.2.1.len = xss.length := by
  obtain ⟨r1, sls, r2, r3, r4⟩ := r
  rw [← r3, r2.1]
theorem ScR.beg {h : Heap} {s : Sc} {bs : List Int} {xss : List (List Ac)} (r : ScR h s bs xss) : (s.2.1.len : Int) = (bs.length : Int) := by rw [r.1.1]
theorem ten {sz : Int} {nb : Nat} {xss : List (List Ac)} {ps : List Int} (hs : xss.length ≤ 1048576) (h2 : ∀ xs ∈ xss, xs.length ≤ 1048576) (hc : chkE sz nb xss = 0) (hS : ScriptP (xss.map List.length) ps) : ps.length ≤ 10 := by
  obtain ⟨_, _, _, _, ha, _⟩ := chkE_ok hc
  rw [actsE_sum hs h2] at ha
  rw [hS.len]; omega
theorem foaS_ok {sz len : Int} {xss : List (List Ac)} {ps : List Int} (hS : ScriptP (xss.map List.length) ps) (h10 : ps.length ≤ 10) : (foaS sz len xss ps).length ≤ 12 ∧ (∀ c ∈ foaS sz len xss ps, c.2 < 12) ∧ ∀ c ∈ foaS sz len xss ps, 0 ≤ c.1.1 ∧ c.1.1 < (xss.length : Int) := by
  have hl : (foaS sz len xss ps).length = ps.length := by unfold foaS; rw [steps_len, rowP_len]
  have hin := hS.1
  rw [List.length_map] at hin
  refine ⟨by omega, fun c hc => ?_, fun c hc => ?_⟩
  · have := steps_lt _ _ c hc
    rw [rowP_len] at this; omega
  · have hm := steps_mem _ hc
    unfold rowP at hm
    obtain ⟨j, hj, e⟩ := List.mem_map.1 hm
    have hj := List.mem_range.1 hj
    rw [← e]
    show 0 ≤ (ps[j]?).getD 0 ∧ (ps[j]?).getD 0 < _
    rw [List.getElem?_eq_getElem hj]
    exact hin _ (List.getElem_mem hj)

theorem foata_spec {s : Sc} {t : Sl} {h : Heap} {bs ps : List Int} {xss : List (List Ac)} (r : ScR h s bs xss) (hs : Small bs xss) {c1 : Sc → Sl → Heap → (Int → Heap → Prop) → Prop} {c2 : Sc → Sl → Heap → (Sl → Heap → Prop) → Prop}
    (i1 : ∀ {Q : Int → Heap → Prop}, (∀ e h', Rdy s.1 bs.length xss ps e → le h h' → Q e h') → c1 s t h Q)
    (i2 : ∀ {k : Heap} {Q : Sl → Heap → Prop}, le h k → chkE s.1 bs.length xss = 0 → ScriptP (xss.map List.length) ps → (foaS s.1 bs.length xss ps).length ≤ 12 → (∀ c ∈ foaS s.1 bs.length xss ps, c.2 < 12) →
      (∀ o els (zss : List (List Int)) h', Nest k h' ki o els zss → zss.length = (formR (foaS s.1 bs.length xss ps)).length → (∀ (i : Nat) (z : List Int), zss[i]? = some z → z.Perm (((formR (foaS s.1 bs.length xss ps))[i]?).getD []) ∧ z.Pairwise (· ≤ ·)) → Q o h') → c2 s t k Q)
    {Q : (Sl × (Int × Unit)) → Heap → Prop} (hQ : ∀ o e h', Rdy s.1 bs.length xss ps e → FoR h h' o (foataP s.1 bs.length xss ps e) → Q (o, (e, ())) h') : explore_Foata.M c1 c2 s t h Q := by
  refine i1 fun e h1 hr l1 => ⟨fun d => ?_, fun d => ?_⟩
  · have d : e ≠ 0 := of_decide_eq_true d
    exact hQ _ e h1 hr ⟨[], by unfold foataP; rw [if_neg d]; exact (Nest.nil h1 ki).base l1⟩
  · have d : ¬ e ≠ 0 := of_decide_eq_false d
    have d : e = 0 := Decidable.not_not.1 d
    subst d
    obtain ⟨hc, hS⟩ := hr.ok
    have h10 := ten hs.2.1 hs.2.2 hc hS
    obtain ⟨f1, f2, f3⟩ := foaS_ok (sz := s.1) (len := bs.length) hS h10
    refine i2 l1 hc hS f1 f2 fun o els zss h2 n hl hz => hQ o 0 h2 hr ⟨els, ?_⟩
    unfold foataP
    rw [if_pos rfl, ← rows_eq f3 hl hz]
    exact n.base l1
theorem foataP_small {sz len : Int} {nb : Nat} {xss : List (List Ac)} {ps : List Int} {e : Int} (hs : xss.length ≤ 1048576) (h2 : ∀ xs ∈ xss, xs.length ≤ 1048576) (hr : Rdy sz nb xss ps e) : (foataP sz len xss ps e).length ≤ 1048576 ∧ ∀ z ∈ foataP sz len xss ps e, z.length ≤ 1048576 := by
  unfold foataP
  by_cases d : e = 0
  · rw [if_pos d]
    subst d
    obtain ⟨hc, hS⟩ := hr.ok
    have h10 := ten hs h2 hc hS
    obtain ⟨f1, f2, f3⟩ := foaS_ok (sz := sz) (len := len) hS h10
    have := formR_len _ 12 f2
    refine ⟨by rw [List.length_map, List.length_range]; omega, fun z hz => ?_⟩
    obtain ⟨n, _, rfl⟩ := List.mem_map.1 hz
    have p := (refRow_perm f3 n).length_eq
    have q : (rawR (foaS sz len xss ps) n).length ≤ (foaS sz len xss ps).length := by unfold rawR; rw [List.length_map]; exact List.length_filter_le _ _
    omega
  · rw [if_neg d]
    exact ⟨Nat.zero_le _, fun z hz => (by cases hz)⟩

end Go.Mx
