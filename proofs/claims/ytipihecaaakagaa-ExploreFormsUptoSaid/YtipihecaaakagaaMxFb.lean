/-
  ExploreRun: the error of a scene and a script; an act.
-/
import Derived.Test.YtipihecaaakagaaMxFa
set_option linter.unusedVariables false
set_option linter.unusedSimpArgs false
namespace Go.Mx

theorem contains_spec {s : Sl} {h : Heap} {ls : List Int} (ha : Arr h ki s ls) (hn : ls.length ≤ 1048576) {f : Value} {cf : Value → Int → Heap → (Bool → Heap → Prop) → Prop} (i0 : ∀ {n : Int} {h : Heap} {Q : Bool → Heap → Prop}, Q (decide (0 < n)) h → cf f n h Q)
    {c1 : Sl → Value → Heap → (Int → Heap → Prop) → Prop} (i1 : ∀ {Q}, slices_IndexFunc_int_int.M cf s f h Q → c1 s f h Q) {Q : Bool → Heap → Prop} (hQ : ∀ b : Bool, (b = true ↔ ∃ x ∈ ls, 0 < x) → Q b h) : slices_ContainsFunc_int_int.M c1 s f h Q :=
  i1 (index_spec ha hn i0 (fun hx r hr => hQ _ ⟨fun _ => hx, fun _ => decide_eq_true hr⟩) fun hx => hQ _ ⟨fun d => (by simp at d), fun q => absurd q hx⟩)

/-- The error that a scene and a script have. -/
def Rdy (sz : Int) (nb : Nat) (xss : List (List Ac)) (ps : List Int) (r : Int) : Prop :=
  (chkE sz nb xss ≠ 0 → r = chkE sz nb xss) ∧ (chkE sz nb xss = 0 → (ScriptP (xss.map List.length) ps → r = 0) ∧ (¬ ScriptP (xss.map List.length) ps → r = 220))
theorem Rdy.one {sz : Int} {nb : Nat} {xss : List (List Ac)} {ps : List Int} {r r' : Int} (a : Rdy sz nb xss ps r) (b : Rdy sz nb xss ps r') : r = r' := by
  by_cases c : chkE sz nb xss = 0
  · by_cases d : ScriptP (xss.map List.length) ps
    · rw [(a.2 c).1 d, (b.2 c).1 d]
    · rw [(a.2 c).2 d, (b.2 c).2 d]
  · rw [a.1 c, b.1 c]
theorem Rdy.ok {sz : Int} {nb : Nat} {xss : List (List Ac)} {ps : List Int} (a : Rdy sz nb xss ps 0) : chkE sz nb xss = 0 ∧ ScriptP (xss.map List.length) ps := by
  by_cases c : chkE sz nb xss = 0
  · refine ⟨c, Classical.byContradiction fun d => ?_⟩
    have := (a.2 c).2 d
    cases this
  · exact absurd (a.1 c).symm c

theorem ready_spec {s : Sc} {t : Sl} {h : Heap} {bs ps : List Int} {xss : List (List Ac)} (r : ScR h s bs xss) (hs : Small bs xss) (hp : Arr h ki t ps) (hn : ps.length ≤ 1048576)
    {c1 : Sc → Heap → (Int → Heap → Prop) → Prop} {c2 : Sc → Sl → Heap → (Bool → Heap → Prop) → Prop} (i1 : ∀ {Q}, Q (chkE s.1 bs.length xss) h → c1 s h Q)
    (i2 : ∀ {Q : Bool → Heap → Prop}, (∀ b h', (b = true ↔ ScriptP (xss.map List.length) ps) → le h h' → Q b h') → c2 s t h Q) {Q : Int → Heap → Prop} (hQ : ∀ e h', Rdy s.1 bs.length xss ps e → le h h' → Q e h') : explore_ready.M c1 c2 s t h Q := by
  refine i1 ⟨fun d => ?_, fun d => i2 fun b h' hb l => ⟨fun q => ?_, fun q => ?_⟩⟩
  · have d : chkE s.1 bs.length xss ≠ 0 := of_decide_eq_true d
    exact hQ _ h ⟨fun _ => rfl, fun c => absurd c d⟩ (.refl h)
  · have d : ¬ chkE s.1 bs.length xss ≠ 0 := of_decide_eq_false d
    have q : ¬ ScriptP (xss.map List.length) ps := fun g => by rw [hb.2 g] at q; cases q
    exact hQ _ h' ⟨fun c => absurd c d, fun _ => ⟨fun g => absurd g q, fun _ => rfl⟩⟩ l
  · have d : ¬ chkE s.1 bs.length xss ≠ 0 := of_decide_eq_false d
    have q : ScriptP (xss.map List.length) ps := hb.1 (by simpa using q)
    exact hQ _ h' ⟨fun c => absurd c d, fun _ => ⟨fun _ => rfl, fun g => absurd q g⟩⟩ l

/-! ### the reference's Script -/
theorem cnt_cons (p : Int) (ps : List Int) (i : Nat) : cnt (p :: ps) i = (if p = (i : Int) then 1 else 0) + cnt ps i := by
  rw [show p :: ps = [p] ++ ps from rfl, cnt_app, cnt_one]
theorem sum_map_add {α : Type} (f g : α → Nat) (l : List α) : (l.map fun i => f i + g i).sum = (l.map f).sum + (l.map g).sum := by
  induction l with
  | nil => rfl
  | cons a l ih => simp only [List.map_cons, List.sum_cons, ih]; omega
theorem sum_delta (p : Int) : ∀ (n : Nat), 0 ≤ p → p < (n : Int) → ((List.range n).map fun i => if p = ((i : Nat) : Int) then 1 else 0).sum = 1
  | 0, h1, h2 => by omega
  | n + 1, h1, h2 => by
    rw [List.range_succ, List.map_append, List.sum_append]
    by_cases c : p = (n : Int)
    · subst c
      have : ((List.range n).map fun i => if (n : Int) = ((i : Nat) : Int) then 1 else 0) = (List.range n).map fun _ => 0 := List.map_congr_left fun i hi => if_neg (by have := List.mem_range.1 hi; omega)
      rw [this]
      have z : ∀ l : List Nat, (l.map fun _ => 0).sum = 0 := fun l => by induction l with
        | nil => rfl
        | cons a l ih => simpa using ih
      rw [z]
      simp
    · rw [sum_delta p n h1 (by omega)]
      simp [c]
theorem cnt_sum (n : Nat) : ∀ (ps : List Int), InR n ps → ((List.range n).map (cnt ps)).sum = ps.length
  | [], _ => by
    have z : ∀ l : List Nat, (l.map (cnt [])).sum = 0 := fun l => by induction l with
      | nil => rfl
      | cons a l ih => rw [List.map_cons, List.sum_cons, ih]; rfl
    exact z _
  | p :: ps, h => by
    have e : cnt (p :: ps) = fun i => (if p = ((i : Nat) : Int) then 1 else 0) + cnt ps i := funext fun i => cnt_cons p ps i
    rw [e, sum_map_add, cnt_sum n ps (fun q hq => h q (by simp [hq])), sum_delta p n (h p (by simp)).1 (h p (by simp)).2, List.length_cons]; omega
theorem ScriptP.len {lens : List Nat} {ps : List Int} (h : ScriptP lens ps) : ps.length = lens.sum := by
  rw [← cnt_sum lens.length ps h.1]
  congr 1
  apply List.ext_getElem?
  intro i
  rw [List.getElem?_map]
  by_cases c : i < lens.length
  · rw [List.getElem?_range c, List.getElem?_eq_getElem c]
    show some _ = some _
    rw [h.2 i lens[i] (by simp)]
  · rw [List.getElem?_eq_none (by simp; omega), List.getElem?_eq_none (by omega)]; rfl
theorem actsE_sum {xss : List (List Ac)} (h1 : xss.length ≤ 1048576) (h2 : ∀ xs ∈ xss, xs.length ≤ 1048576) : actsE xss = (((xss.map List.length).sum : Nat) : Int) := by
  have key : ∀ (l : List (List Ac)) (n : Nat), n + 1048576 * l.length ≤ 1099511627776 → (∀ xs ∈ l, xs.length ≤ 1048576) → l.foldl (fun n l => w64 (n + (l.length : Int))) (n : Int) = ((n + (l.map List.length).sum : Nat) : Int) := by
    intro l
    induction l with
    | nil => intro n _ _; simp
    | cons a l ih =>
      intro n hn hl
      rw [List.length_cons] at hn
      have ha := hl a (by simp)
      rw [List.foldl_cons, show w64 ((n : Int) + (a.length : Int)) = ((n + a.length : Nat) : Int) from by rw [w64_of] <;> omega, ih (n + a.length) (by omega) fun xs hx => hl xs (by simp [hx]), List.map_cons, List.sum_cons]
      congr 1; omega
  have := key xss 0 (by omega) h2
  rw [Nat.zero_add] at this
  exact this

theorem chkE_ok {sz : Int} {nb : Nat} {xss : List (List Ac)} (h : chkE sz nb xss = 0) : 0 ≤ sz ∧ sz ≤ 64 ∧ (nb : Int) ≤ sz ∧ xss.length ≤ 4 ∧ actsE xss ≤ 10 ∧ badsE xss = false := by
  unfold chkE at h
  split at h
  · cases h
  split at h
  · cases h
  split at h
  · cases h
  refine ⟨by omega, by omega, by omega, by omega, by omega, ?_⟩
  cases e : badsE xss <;> simp_all

theorem aget_set {n : Nat} {a : Fin n → Int} {i j : Nat} {v : Int} (hj : j < n) : aget (n := n) (a := ki) (aset (n := n) (a := ki) a i v) j = if j = i then v else aget (n := n) (a := ki) a j := by
  unfold aget aset
  rw [dif_pos hj, dif_pos hj]
  try rfl



end Go.Mx
