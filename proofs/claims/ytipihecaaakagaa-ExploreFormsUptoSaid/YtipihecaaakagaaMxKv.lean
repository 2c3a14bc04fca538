/-
  Acts that do not depend on one another may change places.
-/
import Derived.Test.YtipihecaaakagaaMxKt
import Derived.Test.YtipihecaaakagaaMxFe
set_option linter.unusedVariables false
set_option linter.unusedSimpArgs false
set_option linter.unusedSectionVars false
namespace Go.Mx

abbrev iK (x : Ac) : Int := x.2.1
abbrev iA (x : Ac) : Int := x.2.2.1
abbrev iV (x : Ac) : Int := x.2.2.2.1
/-- What an act does to its cell. -/
def tcell (x : Ac) (v : Int) : Ef × Int :=
  if (iK x) = 0 then ((v, (true, (0, ()))), v)
  else if (iK x) = 1 then ((0, (true, (0, ()))), iV x)
  else if (iK x) = 2 then ((0, (decide (v = iV x), (0, ()))), if v = iV x then x.2.2.2.2.1 else v)
  else ((w64 (v + iV x), (true, (0, ()))), w64 (v + iV x))
theorem set_same {l : List Int} {i : Nat} : l.set i ((l[i]?).getD 0) = l := by
  apply List.ext_getElem?
  intro j
  rw [List.getElem?_set]
  by_cases c : i = j
  · subst c
    rw [if_pos rfl]
    by_cases h : i < l.length
    · rw [if_pos h, List.getElem?_eq_getElem h]; rfl
    · rw [if_neg h, List.getElem?_eq_none (by omega)]
  · rw [if_neg c]
theorem actP_touch {sz : Int} {cs : List Int} {x : Ac} (h4 : (iK x) ≠ 4) : actP sz cs x = if 0 ≤ (iA x) ∧ (iA x) < (cs.length : Int) then ((tcell x ((cs[(iA x).toNat]?).getD 0)).1, cs.set (iA x).toNat (tcell x ((cs[(iA x).toNat]?).getD 0)).2) else ((0, (false, (20, ()))), cs) := by
  unfold actP tcell
  rw [if_neg h4]
  by_cases c : 0 ≤ (iA x) ∧ (iA x) < (cs.length : Int)
  · rw [if_pos c, if_pos c]
    by_cases k0 : (iK x) = 0
    · rw [if_pos k0, if_pos k0]
      dsimp only
      rw [set_same]
    · rw [if_neg k0, if_neg k0]
      by_cases k1 : (iK x) = 1
      · rw [if_pos k1, if_pos k1]
      · rw [if_neg k1, if_neg k1]
        by_cases k2 : (iK x) = 2
        · rw [if_pos k2, if_pos k2]
          dsimp only
          by_cases e : ((cs[(iA x).toNat]?).getD 0 : Int) = iV x
          · rw [if_pos e, if_pos e]
          · rw [if_neg e, if_neg e, set_same]
        · rw [if_neg k2, if_neg k2]
  · rw [if_neg c, if_neg c]
theorem tcell_load {x : Ac} (h : (iK x) = 0) (v : Int) : (tcell x v).2 = v := by unfold tcell; rw [if_pos h]
theorem actP_idle {sz : Int} {cs : List Int} {x : Ac} (h4 : (iK x) = 4) (hv : (iV x) < 1) : actP sz cs x = ((0, (false, (21, ()))), cs) := by unfold actP; rw [if_pos h4, if_pos hv]
theorem actP_give {sz : Int} {cs : List Int} {x : Ac} (h4 : (iK x) = 4) (hv : ¬ (iV x) < 1) : actP sz cs x = if sz - (cs.length : Int) < iV x then ((0, (false, (22, ()))), cs) else (((cs.length : Int), (true, (0, ()))), cs ++ List.replicate (iV x).toNat 0) := by
  unfold actP; rw [if_pos h4, if_neg hv]
theorem touch_len {sz : Int} {cs : List Int} {x : Ac} (h4 : (iK x) ≠ 4) : (actP sz cs x).2.length = cs.length := by
  rw [actP_touch h4]
  split
  · rw [List.length_set]
  · rfl
theorem bad_kind {x : Ac} (h : badE x = false) : 0 ≤ (iK x) ∧ (iK x) ≤ 4 := by
  have h : (decide (iK x < 0) || decide ((4 : Int) < iK x)) = false := h
  rw [Bool.or_eq_false_iff, decide_eq_false_iff_not, decide_eq_false_iff_not] at h
  omega
theorem give_comm {sz len : Int} {cs : List Int} {x y : Ac} (hl : len ≤ (cs.length : Int)) (hz : (cs.length : Int) ≤ sz) (hx4 : (iK x) = 4) (hy4 : (iK y) ≠ 4) (by' : badE y = false) (nd : ¬ (Give (iK x) (iV x) ∧ Touch sz (iK y) (iA y) ∧ len ≤ iA y)) :
    (actP sz (actP sz cs x).2 y).1 = (actP sz cs y).1 ∧ (actP sz (actP sz cs y).2 x).1 = (actP sz cs x).1 ∧ (actP sz (actP sz cs x).2 y).2 = (actP sz (actP sz cs y).2 x).2 := by
  by_cases hv : (iV x) < 1
  · rw [actP_idle hx4 hv, actP_idle hx4 hv]; exact ⟨rfl, rfl, rfl⟩
  · have hk := bad_kind by'
    have hlen := touch_len (sz := sz) (cs := cs) hy4
    rw [actP_give hx4 hv, actP_give (cs := (actP sz cs y).2) hx4 hv, hlen]
    by_cases hr : sz - (cs.length : Int) < iV x
    · rw [if_pos hr, if_pos hr]; exact ⟨rfl, rfl, rfl⟩
    · rw [if_neg hr, if_neg hr]
      have hg : Give (iK x) (iV x) := ⟨hx4, by omega⟩
      have hfar : ¬ ((cs.length : Int) ≤ iA y ∧ (iA y) < sz) := fun q => nd ⟨hg, ⟨hk.1, by omega, by omega, q.2⟩, by omega⟩
      have hvl : ((iV x).toNat : Int) = iV x := by omega
      generalize hn : (iV x).toNat = n at *
      dsimp only
      rw [actP_touch (cs := cs ++ List.replicate n 0) hy4, actP_touch (cs := cs) hy4, List.length_append, List.length_replicate]
      by_cases c : 0 ≤ (iA y) ∧ (iA y) < (cs.length : Int)
      · have hb : (iA y).toNat < cs.length := by omega
        rw [if_pos c, if_pos ⟨c.1, by omega⟩, List.getElem?_append_left hb]
        refine ⟨rfl, rfl, ?_⟩
        dsimp only
        rw [List.set_append_left _ _ hb]
      · rw [if_neg c, if_neg (fun q => c ⟨q.1, by omega⟩)]
        exact ⟨rfl, rfl, rfl⟩
theorem touch_comm {sz len : Int} {cs : List Int} {x y : Ac} (hz : (cs.length : Int) ≤ sz) (hx4 : (iK x) ≠ 4) (hy4 : (iK y) ≠ 4) (bx : badE x = false) (by' : badE y = false) (nd : ¬ (Touch sz (iK x) (iA x) ∧ Touch sz (iK y) (iA y) ∧ (iA x) = iA y ∧ ((iK x) ≠ 0 ∨ (iK y) ≠ 0))) :
    (actP sz (actP sz cs x).2 y).1 = (actP sz cs y).1 ∧ (actP sz (actP sz cs x).2 y).2 = (actP sz (actP sz cs y).2 x).2 := by
  have hkx := bad_kind bx
  have hky := bad_kind by'
  rw [actP_touch (cs := (actP sz cs x).2) hy4, actP_touch (cs := (actP sz cs y).2) hx4, touch_len hx4, touch_len hy4]
  rw [actP_touch (cs := cs) hx4, actP_touch (cs := cs) hy4]
  by_cases cx : 0 ≤ (iA x) ∧ (iA x) < (cs.length : Int)
  · by_cases cy : 0 ≤ (iA y) ∧ (iA y) < (cs.length : Int)
    · rw [if_pos cx, if_pos cy, if_pos cx, if_pos cy]
      dsimp only
      by_cases e : (iA x) = iA y
      · have h0 : ¬ ((iK x) ≠ 0 ∨ (iK y) ≠ 0) := fun q => nd ⟨⟨hkx.1, by omega, cx.1, by omega⟩, ⟨hky.1, by omega, cy.1, by omega⟩, e, q⟩
        have hx0 : (iK x) = 0 := Classical.byContradiction fun q => h0 (.inl q)
        have hy0 : (iK y) = 0 := Classical.byContradiction fun q => h0 (.inr q)
        rw [tcell_load hx0, tcell_load hy0, set_same, set_same, tcell_load hx0, tcell_load hy0, set_same, set_same]
        exact ⟨rfl, rfl⟩
      · have hne : (iA x).toNat ≠ (iA y).toNat := by omega
        rw [List.getElem?_set_ne hne, List.getElem?_set_ne (fun q => hne q.symm)]
        exact ⟨rfl, List.set_comm _ _ hne⟩
    · rw [if_pos cx, if_neg cy, if_neg cy, if_pos cx]; exact ⟨rfl, rfl⟩
  · by_cases cy : 0 ≤ (iA y) ∧ (iA y) < (cs.length : Int)
    · rw [if_neg cx, if_pos cy, if_neg cx]; exact ⟨rfl, rfl⟩
    · rw [if_neg cx, if_neg cy, if_neg cx]; exact ⟨rfl, rfl⟩
/-- Acts that do not depend on one another may change places. -/
theorem act_comm {sz len : Int} {cs : List Int} {x y : Ac} (hl : len ≤ (cs.length : Int)) (hz : (cs.length : Int) ≤ sz) (bx : badE x = false) (by' : badE y = false) (nd : ¬ DepI sz len x.2.1 x.2.2.1 x.2.2.2.1 y.2.1 y.2.2.1 y.2.2.2.1) :
    (actP sz (actP sz cs x).2 y).1 = (actP sz cs y).1 ∧ (actP sz (actP sz cs x).2 y).2 = (actP sz (actP sz cs y).2 x).2 := by
  have nd : ¬ ((Give (iK x) (iV x) ∧ Give (iK y) (iV y)) ∨ (Give (iK x) (iV x) ∧ Touch sz (iK y) (iA y) ∧ len ≤ iA y) ∨ (Give (iK y) (iV y) ∧ Touch sz (iK x) (iA x) ∧ len ≤ iA x) ∨ (Touch sz (iK x) (iA x) ∧ Touch sz (iK y) (iA y) ∧ iA x = iA y ∧ (iK x ≠ 0 ∨ iK y ≠ 0))) := nd
  simp only [not_or] at nd
  obtain ⟨d1, d2, d3, d4⟩ := nd
  by_cases hx4 : (iK x) = 4
  · by_cases hy4 : (iK y) = 4
    · by_cases hv : (iV x) < 1
      · rw [actP_idle hx4 hv, actP_idle hx4 hv]; exact ⟨rfl, rfl⟩
      · by_cases hw : (iV y) < 1
        · rw [actP_idle hy4 hw, actP_idle hy4 hw]; exact ⟨rfl, rfl⟩
        · exact absurd ⟨⟨hx4, by omega⟩, hy4, by omega⟩ d1
    · have := give_comm hl hz hx4 hy4 by' d2
      exact ⟨this.1, this.2.2⟩
  · by_cases hy4 : (iK y) = 4
    · have := give_comm hl hz hy4 hx4 bx d3
      exact ⟨this.2.1, this.2.2.symm⟩
    · exact touch_comm (len := len) hz hx4 hy4 bx by' d4
theorem actP_grow {sz : Int} {cs : List Int} {x : Ac} : cs.length ≤ (actP sz cs x).2.length := by
  by_cases h4 : (iK x) = 4
  · by_cases hv : (iV x) < 1
    · rw [actP_idle h4 hv]; exact Nat.le_refl _
    · rw [actP_give h4 hv]
      split
      · exact Nat.le_refl _
      · show _ ≤ (cs ++ _).length; rw [List.length_append]; omega
  · rw [touch_len h4]; exact Nat.le_refl _

/-! ### alike scripts end alike -/
section
variable {sz : Int} {nb : Nat} {xss : List (List Ac)}
def actE (xss : List (List Ac)) (e : Ev) : Ac := xAt xss e.1.toNat e.2
abbrev CellsOk (sz : Int) (nb : Nat) : Type := { cs : List Int // nb ≤ cs.length ∧ (cs.length : Int) ≤ sz }
def cellQ (sz : Int) (nb : Nat) (xss : List (List Ac)) (s : CellsOk sz nb) (e : Ev) : CellsOk sz nb :=
  if badE (actE xss e) = false then ⟨(actP sz s.1 (actE xss e)).2, Nat.le_trans s.2.1 actP_grow, actP_len s.2.2⟩ else s
theorem cellQ_ok {s : CellsOk sz nb} {e : Ev} (h : badE (actE xss e) = false) : (cellQ sz nb xss s e).1 = (actP sz s.1 (actE xss e)).2 := by
  unfold cellQ; rw [if_pos h]
theorem cellQ_no {s : CellsOk sz nb} {e : Ev} (h : ¬ badE (actE xss e) = false) : cellQ sz nb xss s e = s := by
  unfold cellQ; rw [if_neg h]
theorem cellQ_comm (s : CellsOk sz nb) (a b : Ev) (h : bdE sz nb xss a b = false) : cellQ sz nb xss (cellQ sz nb xss s a) b = cellQ sz nb xss (cellQ sz nb xss s b) a := by
  by_cases ha : badE (actE xss a) = false
  · by_cases hb : badE (actE xss b) = false
    · apply Subtype.ext
      rw [cellQ_ok hb, cellQ_ok ha, cellQ_ok ha, cellQ_ok hb]
      refine (act_comm (len := (nb : Int)) (Int.ofNat_le.2 s.2.1) s.2.2 ha hb fun q => ?_).2
      unfold bdE bdA at h
      exact of_decide_eq_false h (.inr q)
    · rw [cellQ_no hb, cellQ_no (s := s) hb]
  · rw [cellQ_no ha, cellQ_no (s := cellQ sz nb xss s b) ha]
theorem play_fold {bs : List Int} (h1 : nb ≤ bs.length) (h2 : (bs.length : Int) ≤ sz) : ∀ {ps : List Int}, InR xss.length ps → (∀ e ∈ evL ps, badE (actE xss e) = false) → (playP sz bs xss ps).1 = ((evL ps).foldl (cellQ sz nb xss) ⟨bs, h1, h2⟩).1 := fun {ps} => by
  induction ps using rev_ind with
  | nil => intro _ _; rfl
  | append_singleton ps p ih =>
    intro hin hok
    have hin1 : InR xss.length ps := fun q hq => hin q (List.mem_append_left _ hq)
    have hp := hin p (by simp)
    rw [evL_snoc] at hok ⊢
    have ih := ih hin1 fun e he => hok e (List.mem_append_left _ he)
    rw [List.foldl_append]
    show _ = (cellQ sz nb xss _ (p, cnt ps p.toNat)).1
    rw [cellQ_ok (hok _ (by simp)), ← ih]
    have hpl : playP sz bs xss (ps ++ [p]) = stepP sz xss (playP sz bs xss ps) p := by unfold playP; rw [List.foldl_append]; rfl
    rw [hpl]
    unfold stepP actE
    dsimp only
    rw [playP_cnt hin1 (by omega)]
theorem ends_alk {bs p q : List Int} (h2 : (bs.length : Int) ≤ sz) (hbad : badsE xss = false) (hp : ScriptP (xss.map List.length) p) (hq : ScriptP (xss.map List.length) q) (h : Alk (bdE sz bs.length xss) (evL p) (evL q)) : (playP sz bs xss p).1 = (playP sz bs xss q).1 := by
  have ok : ∀ {p : List Int}, ScriptP (xss.map List.length) p → InR xss.length p ∧ ∀ e ∈ evL p, badE (actE xss e) = false := fun {p} hp => by
    have hin := hp.1
    rw [List.length_map] at hin
    refine ⟨hin, fun e he => ?_⟩
    obtain ⟨e0, e1⟩ := (evL_mem (fun q hq => (hin q hq).1) e).1 he
    have hx : e.1.toNat < xss.length := by
      rcases Nat.lt_or_ge e.1.toNat xss.length with z | z
      · exact z
      · rw [cnt_none hin z] at e1; exact absurd e1 (Nat.not_lt_zero _)
    have hxx : xss[e.1.toNat]? = some xss[e.1.toNat] := by simp [hx]
    have hl := hp.2 e.1.toNat xss[e.1.toNat].length (by rw [List.getElem?_map, hxx]; rfl)
    have hlt : e.2 < xss[e.1.toNat].length := by omega
    have hy : xss[e.1.toNat][e.2]? = some (xss[e.1.toNat][e.2]) := List.getElem?_eq_getElem hlt
    have := bads_no hbad hxx hy
    unfold actE xAt
    rw [hxx]
    show badE ((xss[e.1.toNat][e.2]?).getD ac0) = false
    rw [hy]; exact this
  obtain ⟨a1, a2⟩ := ok hp
  obtain ⟨b1, b2⟩ := ok hq
  rw [play_fold (nb := bs.length) (Nat.le_refl _) h2 a1 a2, play_fold (nb := bs.length) (Nat.le_refl _) h2 b1 b2, Alk.fold (bdE sz bs.length xss) cellQ_comm h]
end
end Go.Mx
